/- The statement LockLeaves, walked. -/
import Derived.Test.YtpjgfkdnjkfnfaaLA
namespace Go.Proofs.Ytpjgfkdnjkfnfaa
open Go.ChangeShapes Go.WideShapes Go.ChangeAt Go.RowKit Go.Joins

def okWho (f : Nat → Bool) (x : Int) : Prop := 0 ≤ x ∧ x < 6 ∧ f x.toNat = false
/-- What holds at every round: a table of our own, the row of those who left beside it, and none of them in the table. -/
def LR (w : World) (t g : Nat) (H W : List Lk) (wr : World) : Prop := ∃ G f, TabG w wr t G H W ∧ ¬ G g ∧ BR wr g 6 f ∧ Whos (okWho f) H W ∧ w.heap.size ≤ g
theorem TabG.row {w0 wr t G H W g i v} (h : TabG w0 wr t G H W) (hg : ¬ G g) (hs : w0.heap.size ≤ g) : TabG w0 (wr.setCell ⟨g, i, none⟩ v) t G H W := by
  obtain ⟨h1, ⟨hv, wv, ht, hF⟩, h3⟩ := h
  have hm : Mod (fun k => k = g) wr (wr.setCell ⟨g, i, none⟩ v) := (Mod.refl _ _).setCell _ _ (fun _ => rfl)
  exact ⟨h1.setCell _ _ hs, ⟨hv, wv, ht.mod hm (fun _ hk e => hg (e ▸ hF _ hk)), hF⟩, fun k hk => by have := h3 k hk; have := hm.size; omega⟩
theorem LkSl.row {wr : World} {A n c ls g m f i v} (h : Own wr 29 4 (.slice A n c) n (flat ls)) (hb : BR wr g m f) : LkSl (wr.setCell ⟨g, i, none⟩ v) A n ls :=
  LkSl.of_own (h.mod (S := fun k => k = g) ((Mod.refl _ _).setCell _ _ (fun _ => rfl)) (fun _ hk e => hb.apart h (e ▸ hk)))

set_option maxRecDepth 20000 in
set_option maxHeartbeats 40000000 in
theorem lockLeaves_walk (A B : Option Addr) (n c m d : Nat) (xs : List Step) (ys : List Nat) (w : World) (hxs : StSl w A n xs) (hys : BySl w B m ys) (hn : n ≤ maxLen) (hm : m ≤ maxLen) :
    Calls Try.prog 7 #[.slice A n c, .slice B m d] w fun e w' => e = .returned (.bool true) ∧ Ext w w' := by
  have HX := Lib.hid hxs
  have HY := Lib.hid hys
  have hn' : n ≤ 9223372036854775807 := by unfold maxLen at hn; omega
  have hm' : m ≤ 9223372036854775807 := by unfold maxLen at hm; omega
  have hmk : ∀ w, (Instr.makeSlice 52 (.int .i64 6) (.int .i64 6)).run Try.prog w = .ok (.slice (some ⟨w.heap.size, 0, none⟩) 6 6) (w.alloc (.cells (Array.replicate 6 (.bool false)) 4)) := fun _ => by kernel_rfl
  clear hxs hn hys hm
  go_enter Try.func7, Try.ntmps7
  go_wp2_with fail
  refine (new_b w _ (Ext.refl _)).mono ?_
  rintro e w1 ⟨t, rfl, hT1⟩
  have HT1 := Lib.hid hT1
  clear hT1
  go_wp2_with fail
  go_loopw [6] (fun i wr => ∃ (k : Nat) (H W : List Lk), k ≤ n ∧ k ≤ 100 ∧ i = .int .i64 k ∧ TabB w wr t H W ∧ Whos (fun x => 0 ≤ x ∧ x < 6) H W) (fun i _ => n - (intOf i).toNat)
  case atStart => exact ⟨0, [], [], Nat.zero_le _, Nat.zero_le _, rfl, HT1.out, ⟨fun l h => by simp at h, fun l h => by simp at h⟩⟩
  case round =>
    obtain ⟨k, H, W, hk, hk1, rfl, hT, hs⟩ := hrel
    have HT := Lib.hid hT
    have HS := Lib.hid hs
    clear hT hs
    by_cases hgo : k < n ∧ k < 100
    · obtain ⟨hlt, h100⟩ := hgo
      have hkl : k < xs.length := by have := HX.out.1; omega
      obtain ⟨b, off, rfl, hb, hce⟩ := (HX.out.ext HT.out.1).2 (by omega)
      obtain ⟨s0, s1, s2, s3, s4⟩ := hce k xs[k] (List.getElem?_eq_getElem hkl)
      obtain ⟨⟨d, l⟩, hxe⟩ : ∃ x, xs[k] = x := ⟨_, rfl⟩
      rw [hxe] at s0 s1 s2 s3 s4
      simp only at s0 s1 s2 s3 s4
      obtain ⟨lw, lp, ln, ls⟩ := l
      simp only at s1 s2 s3 s4
      clear hce hxe
      go_wp2_with fail
      refine (goes_any w _ t H W d lw lp ln ls HT.out).mono ?_
      rintro e w2 ⟨⟨v, rfl⟩, hT2⟩
      have HS2 := Lib.hid (HS.out.goes d (l := ⟨six lw, lp, ln, ls⟩) (six_lt lw))
      obtain ⟨⟨H1, W1⟩, hg⟩ : ∃ g, goesF d ⟨six lw, lp, ln, ls⟩ H W = g := ⟨_, rfl⟩
      rw [hg] at HS2 hT2
      simp only at HS2 hT2
      have HT2 := Lib.hid hT2
      clear hT2 hg s0 s1 s2 s3 s4 HT HS
      go_wp2_with fail
      go_roundw
      case rel => exact ⟨k + 1, H1, W1, by omega, by omega, by go_num, HT2.out, HS2.out⟩
      case measure => simp [intOf]; omega
    · have HR0 : Hid (LR w t wr.heap.size H W (wr.alloc (.cells (Array.replicate 6 (.bool false)) 4))) := by
        refine ⟨_, fun _ => false, HT.out.toG.ext ((Ext.refl _).alloc _), fun h => by have := h.2; omega, BR.made _ _, ?_⟩
        exact ⟨⟨fun l hl => ⟨(HS.out.1 l hl).1, (HS.out.1 l hl).2, rfl⟩, fun l hl => ⟨(HS.out.2 l hl).1, (HS.out.2 l hl).2, rfl⟩⟩, HT.out.1.size⟩
      by_cases hkn : k < n
      · have h100 : ¬ k < 100 := fun h => hgo ⟨hkn, h⟩
        clear hgo
        go_wp2_with fail
        obtain ⟨wg, hwg⟩ : ∃ wg : World, wr.alloc (.cells (Array.replicate 6 (.bool false)) 4) = wg := ⟨_, rfl⟩
        obtain ⟨g, hg⟩ : ∃ g, wr.heap.size = g := ⟨_, rfl⟩
        rw [hwg, hg] at HR0
        rw [hwg, hg]
        clear hwg hg
        go_loopw [8] (fun i wr => ∃ (i' : Nat) (H W : List Lk), i' ≤ 60 ∧ i = .int .i64 i' ∧ LR w t g H W wr) (fun i _ => 60 - (intOf i).toNat)
        case atStart => exact ⟨0, H, W, by omega, rfl, HR0.out⟩
        case round =>
          obtain ⟨i, H2, W2, hi, rfl, hR⟩ := hrel
          have HR := Lib.hid hR
          obtain ⟨G, f, hT2, hG, hF, hS2, hgs⟩ := hR
          have HT2 := Lib.hid hT2
          have HG := Lib.hid hG
          have HF := Lib.hid hF
          have HS2 := Lib.hid hS2
          have HGs := Lib.hid hgs
          clear hT2 hG hF hS2 hgs
          by_cases hgo : i < 60 ∧ i < m + 6 ∧ m ≤ 9223372036854775801
          · obtain ⟨hi60, him, hmo⟩ := hgo
            by_cases hi0 : i < m
            · obtain ⟨bo, oo, rfl, hbo, hco⟩ := (HY.out.ext HT2.out.1).2 (by omega)
              have hil : i < ys.length := by have := HY.out.1; omega
              obtain ⟨hx, cx⟩ := hco i ys[i] (List.getElem?_eq_getElem hil)
              generalize ys[i] = x at hx cx
              clear hco
              have him' : (i : Int) < (m : Int) + 6 := by omega
              have hi60' : (i : Int) < 60 := by omega
              have cg := HF.out.cell (x % 6) (by omega)
              cases hf : f (x % 6) with
              | true =>
                rw [hf] at cg
                clear hf
                go_wp2_with fail
                refine ⟨⟨i + 1, H2, W2, by omega, by go_num, HR.out⟩, ?_⟩
                simp [intOf]; omega
              | false =>
                rw [hf] at cg
                have Hf := Lib.hid hf
                clear hf
                go_wp2_with fail
                rw [show ((x : Int) % 6) = ((x % 6 : Nat) : Int) by omega]
                have hw6 : x % 6 < 6 := by omega
                clear cx
                generalize x % 6 = wn at *
                have Hwn : Hid (wn < 6) := hw6
                refine (waits_g w _ t G H2 W2 HT2.out).mono ?_
                rintro e w2 ⟨A2, c2, rfl, hx2, hT3, hB3⟩
                have HT3 := Lib.hid hT3
                have HB3 := Lib.hid hB3
                have HF3 : Hid (BR w2 g 6 f) := HF.out.ext hx2
                clear hT3 hB3 hx2
                go_wp2_with fail
                refine (leave_g w _ t G H2 W2 wn HT3.out).mono ?_
                rintro e w3 ⟨A3, c3, G3, rfl, hm3, hT4, hG4, hB4⟩
                have HT4 := Lib.hid hT4
                have HB4 := Lib.hid hB4
                have HF4 : Hid (BR w3 g 6 f) := HF3.out.mod hm3 HG.out
                have HG4 : Hid (¬ G3 g) := fun h => by
                  rcases hG4 g h with h | h
                  · exact HG.out h
                  · have := HF3.out.lt; omega
                have HO4 : Hid (Own w3 29 4 (.slice A2 W2.length c2) W2.length (flat W2)) := HB3.out.mod hm3
                have HS4 : Hid (Whos (fun x => okWho f x ∧ x ≠ (wn : Int)) (leaveF wn H2 W2).1 (leaveF wn H2 W2).2.1) := HS2.out.left wn
                have Hsh := Lib.hid (leaveF_shape wn H2 W2)
                have Hsum := Lib.hid (leave_sum wn H2 W2)
                have hfew : H2.length + W2.length ≤ 256 := by
                  obtain ⟨hv, wv, ht, hF⟩ := HT2.out.2.1
                  exact ht.few
                have hfew2 : (leaveF wn H2 W2).1.length + (leaveF wn H2 W2).2.1.length ≤ 256 := by
                  obtain ⟨hv, wv, ht, hF⟩ := HT4.out.2.1
                  exact ht.few
                have HwT : Hid (∀ l ∈ (leaveF wn H2 W2).2.2, okWho f l.who ∧ l.who ≠ (wn : Int)) := fun l hl => by
                  obtain ⟨h1, h2⟩ := others_who (Hsh.out.2 l hl)
                  exact ⟨HS2.out.2 l h1, h2⟩
                obtain ⟨⟨H3, W3, T3⟩, hL⟩ : ∃ z, leaveF wn H2 W2 = z := ⟨_, rfl⟩
                rw [hL] at HT4 HB4 HS4 Hsh Hsum hfew2 HwT
                rw [hL]
                simp only at HT4 HB4 HS4 Hsh Hsum hfew2 HwT
                clear hm3 hT4 hG4 hB4 hL
                go_wp2_with fail
                refine (waits_g w _ t G3 H3 W3 HT4.out).mono ?_
                rintro e w4 ⟨A4, c4, rfl, hx4, hT5, -⟩
                have HT6 : Hid (TabG w (w4.setCell ⟨g, wn, none⟩ (.bool true)) t G3 H3 W3) := hT5.row HG4.out HGs.out
                have HF5 : BR w4 g 6 f := HF4.out.ext hx4
                have HF6 : Hid (BR (w4.setCell ⟨g, wn, none⟩ (.bool true)) g 6 (fun j => if j = wn then true else f j)) := HF5.set wn
                have HL6 : Hid (LkSl (w4.setCell ⟨g, wn, none⟩ (.bool true)) A2 W2.length W2) := LkSl.row (HO4.out.ext hx4) HF5
                have HL7 : Hid (LkSl (w4.setCell ⟨g, wn, none⟩ (.bool true)) A3 T3.length T3) := LkSl.row (HB4.out.1.ext hx4) HF5
                have cg4 := HF5.cell wn hw6
                have fg4 := HF5.frozen wn
                clear HF5 hT5 hx4 cg
                go_wp2_with fail
                generalize w4.setCell ⟨g, wn, none⟩ (.bool true) = w5 at *
                clear cg4 fg4
                go_loopw [13, 14] (fun cv jv wr => ∃ j : Nat, j ≤ W2.length ∧ jv = .int .i64 j ∧ cv = .int .i64 (mineN wn (W2.take j)) ∧ Ext w5 wr) (fun _ jv _ => W2.length - (intOf jv).toNat)
                case atStart => exact ⟨0, Nat.zero_le _, rfl, by simp [mineN], Ext.refl _⟩
                case round =>
                  obtain ⟨j, hj, rfl, rfl, hx⟩ := hrel
                  have Hx := Lib.hid hx
                  clear hx
                  have hmine : mineN wn (W2.take j) ≤ j := by
                    have h1 : mineN wn (W2.take j) ≤ (W2.take j).length := List.countP_le_length
                    have h2 := List.length_take_le j W2
                    omega
                  by_cases hjl : j < W2.length
                  · obtain ⟨y, hye⟩ : ∃ y, W2[j]? = some y := ⟨_, List.getElem?_eq_getElem hjl⟩
                    obtain ⟨bq, oq, rfl⟩ := HL6.out.form (by omega)
                    obtain ⟨p0, -, -, -⟩ := (HL6.out.ext Hx.out).at hye
                    have q0 := p0 _ (Ext.refl _)
                    have Hn := Lib.hid (mineN_take (who := wn) hye)
                    clear p0 hye
                    by_cases hyw : y.who = (wn : Int)
                    · have hb : (y.who == (wn : Int)) = true := by simpa using hyw
                      rw [if_pos hyw] at Hn
                      have Hn2 : Hid (((mineN wn (W2.take (j + 1)) : Nat) : Int) = (mineN wn (W2.take j) : Int) + 1) := by show _ = _; have := Hn.out; omega
                      clear hyw
                      go_wp2_with fail
                      go_roundw
                      case rel => exact ⟨j + 1, by omega, by go_num, by rw [Hn2.out], Hx.out⟩
                      case measure => simp [intOf]; omega
                    · have hb : (y.who == (wn : Int)) = false := by simpa using hyw
                      rw [if_neg hyw] at Hn
                      have Hn2 : Hid (((mineN wn (W2.take (j + 1)) : Nat) : Int) = (mineN wn (W2.take j) : Int)) := by show _ = _; have := Hn.out; omega
                      clear hyw
                      go_wp2_with fail
                      go_roundw
                      case rel => exact ⟨j + 1, by omega, by go_num, by rw [Hn2.out], Hx.out⟩
                      case measure => simp [intOf]; omega
                  · have hjn : W2.take j = W2 := List.take_of_length_le (by omega)
                    rw [hjn] at hmine
                    rw [hjn]
                    have hS := Hsum.out
                    have hsum : (W3.length : Int) + (T3.length : Int) + ((mineN wn W2 : Nat) : Int) = (W2.length : Int) := by omega
                    clear hjn
                    go_wp2_with fail
                    refine (held_g w _ t G3 H3 W3 (HT6.out.ext Hx.out)).mono ?_
                    rintro e w6 ⟨A6, c6, rfl, hx6, hT7, hB7⟩
                    have HT7 := Lib.hid hT7
                    have HH7 : Hid (LkSl w6 A6 H3.length H3) := LkSl.of_own hB7.1
                    have HX7 : Hid (Ext w5 w6) := Hx.out.trans hx6
                    have HF7 : Hid (BR w6 g 6 (fun j => if j = wn then true else f j)) := HF6.out.ext HX7.out
                    have HL8 : Hid (LkSl w6 A3 T3.length T3) := HL7.out.ext HX7.out
                    have Hlen : Hid (H3.length = (others wn H2).length + T3.length) := by show _ = _; rw [Hsh.out.1, List.length_append]
                    clear hT7 hB7 hx6
                    go_wp2_with fail
                    obtain ⟨wz, rfl⟩ : ∃ wz : World, wz = wr := ⟨_, rfl⟩
                    go_loopw [16] (fun jv wr => ∃ j : Nat, j ≤ T3.length ∧ jv = .int .i64 j ∧ Ext w6 wr) (fun jv _ => T3.length - (intOf jv).toNat)
                    case atStart => exact ⟨0, Nat.zero_le _, rfl, Ext.refl _⟩
                    case round =>
                      obtain ⟨q, hq, rfl, hx⟩ := hrel
                      have Hx8 := Lib.hid hx
                      clear hx
                      by_cases hql : q < T3.length
                      · obtain ⟨y, hye⟩ : ∃ y, T3[q] = y := ⟨_, rfl⟩
                        have hyt : T3[q]? = some y := by rw [List.getElem?_eq_getElem hql, hye]
                        obtain ⟨⟨z1, z2, z3⟩, z4⟩ := HwT.out y (hye ▸ List.getElem_mem hql)
                        have hyh : H3[(others wn H2).length + q]? = some y := by
                          rw [Hsh.out.1, List.getElem?_append_right (by omega), show (others wn H2).length + q - (others wn H2).length = q by omega, hyt]
                        have hlen := Hlen.out
                        generalize (others wn H2).length = o at hlen hyh
                        obtain ⟨bt, ot, rfl⟩ := HL8.out.form (by omega)
                        obtain ⟨bh, oh, rfl⟩ := HH7.out.form (by omega)
                        obtain ⟨p0, p1, p2, p3⟩ := (HL8.out.ext Hx8.out).at hyt
                        obtain ⟨r0, r1, r2, r3⟩ := (HH7.out.ext Hx8.out).at hyh
                        clear hyt hyh hye
                        obtain ⟨yw, yp, yn, ys⟩ := y
                        simp only at z1 z2 z3 z4 p0 p1 p2 p3 r0 r1 r2 r3
                        obtain ⟨ya, rfl⟩ := Int.eq_ofNat_of_zero_le z1
                        have hf8 : (if ya = wn then true else f ya) = false := by
                          rw [if_neg (by omega)]; simpa using z3
                        have cy : ∀ wx, Ext wr wx → wx.cell? ⟨g, ya, none⟩ = some (.bool false) := fun wx h => by
                          have := ((HF7.out.ext Hx8.out).ext h).cell ya (by omega)
                          rw [hf8] at this
                          exact this
                        have n1 : IntKind.i64.wrap ((H3.length : Int) - (T3.length : Int)) = (o : Int) := by rw [IntWalk.i64_in _ (by omega)]; omega
                        have n2 : IntKind.i64.wrap ((o : Int) + (q : Int)) = (o : Int) + (q : Int) := IntWalk.i64_in _ (by omega)
                        have n3 : ((o : Int) + (q : Int)).toNat = o + q := by omega
                        have n4 : 0 ≤ (o : Int) + (q : Int) := by omega
                        have n5 : (o : Int) + (q : Int) < (H3.length : Int) := by omega
                        have n6 : (T3.length : Int) ≤ (H3.length : Int) := by omega
                        have n6b : decide (H3.length < T3.length) = false := by simp; omega
                        have n7 : (q : Int) < (T3.length : Int) := by omega
                        have n8 : (ya : Int) < 6 := by omega
                        clear hf8 z3 z4 hlen
                        go_wp2_with fail
                        refine region_lin (fun wx => Ext wr wx) 100000 [(0, 0), (1, 0), (2, 0), (3, 0), (4, 0), (5, 0), (6, 0), (7, 0), (8, 0), (9, 0), (10, 0), (11, 0), (12, 0), (13, 0), (14, 0), (15, 0), (16, 0), (17, 0), (18, 0), (19, 0), (20, 0), (21, 0), (22, 0), (23, 0), (24, 0), (25, 0), (26, 0), (27, 0), (28, 0), (29, 0), (30, 0), (31, 0)] ?_ (by kernel_rfl) (by kernel_rfl) ?_ (fun _ _ _ _ _ h => h) ((Ext.refl _).drew) ?_
                        rotate_left
                        (simp only [planOps, List.mapM_cons, List.mapM_nil, List.getElem?_toArray, List.getElem?_cons_zero, List.getElem?_cons_succ, Option.map_some, Option.bind_eq_bind, Option.bind_some, Option.pure_def]; rfl)
                        intro wd hwd hxd
                        clear hxd
                        repeat (first | (refine lin_take ?_ (by rfl) (fun wx hx => ?_) ?_; rotate_left; go_simp; (with_reducible rfl); try simp only [Act.put, List.setIfInBounds_toArray, List.set_cons_zero, List.set_cons_succ]) | (refine lin_skip (by rfl) ?_; try simp only [Act.put, List.setIfInBounds_toArray, List.set_cons_zero, List.set_cons_succ]) | (refine lin_take3 ?_ (by rfl) (fun wx hx => ?_) ?_; rotate_left; go_simp; (with_reducible rfl); try simp only [Act.put, List.setIfInBounds_toArray, List.set_cons_zero, List.set_cons_succ]))
                        refine lin_nil ?_
                        have Hx10 : Hid (Ext w6 wd) := Hx8.out.trans hwd
                        clear hwd cy p0 p1 p2 p3 r0 r1 r2 r3 n1 n2 n3 n4 n5 n6 n6b
                        go_wp2_with fail
                        go_roundw
                        case rel => exact ⟨q + 1, by omega, by go_num, Hx10.out⟩
                        case measure => simp [intOf]; omega
                      · have HX9 : Hid (Ext w6 wr) := Hx8.out
                        go_wp2_with fail
                        obtain ⟨wy, rfl⟩ : ∃ wy : World, wy = wr := ⟨_, rfl⟩
                        go_loopw [17] (fun jv wr => ∃ j : Nat, j ≤ H3.length ∧ jv = .int .i64 j ∧ Ext w6 wr) (fun jv _ => H3.length - (intOf jv).toNat)
                        case atStart => exact ⟨0, Nat.zero_le _, rfl, HX9.out⟩
                        case round =>
                          obtain ⟨q2, hq2, rfl, hx⟩ := hrel
                          have Hx9 := Lib.hid hx
                          clear hx
                          by_cases hql2 : q2 < H3.length
                          · obtain ⟨y, hye⟩ : ∃ y, H3[q2] = y := ⟨_, rfl⟩
                            have hyt : H3[q2]? = some y := by rw [List.getElem?_eq_getElem hql2, hye]
                            have hyw := (HS4.out.1 y (hye ▸ List.getElem_mem hql2)).2
                            have hb : (y.who == (wn : Int)) = false := by simpa using hyw
                            obtain ⟨bh, oh, rfl⟩ := HH7.out.form (by omega)
                            obtain ⟨p0, -, -, -⟩ := (HH7.out.ext Hx9.out).at hyt
                            have q0 := p0 _ (Ext.refl _)
                            clear p0 hyt hye hyw
                            go_wp2_with fail
                            go_roundw
                            case rel => exact ⟨q2 + 1, by omega, by go_num, Hx9.out⟩
                            case measure => simp [intOf]; omega
                          · have HR2 : Hid (LR w t g H3 W3 wr) := by
                              refine ⟨G3, _, HT7.out.ext Hx9.out, HG4.out, HF7.out.ext Hx9.out, ?_, HGs.out⟩
                              have h0 : ∀ x : Int, (okWho f x ∧ x ≠ (wn : Int)) → okWho (fun j => if j = wn then true else f j) x := fun x ⟨⟨a1, a2, a3⟩, a4⟩ => ⟨a1, a2, by
                                show (if x.toNat = wn then true else f x.toNat) = false
                                rw [if_neg (by omega)]; exact a3⟩
                              exact ⟨fun l hl => h0 _ (HS4.out.1 l hl), fun l hl => h0 _ (HS4.out.2 l hl)⟩
                            go_wp2_with fail
                            go_roundw
                            case rel => exact ⟨i + 1, H3, W3, by omega, by go_num, HR2.out⟩
                            case measure => simp [intOf]; omega
            · obtain ⟨wn, rfl⟩ : ∃ wn, i = m + wn := ⟨i - m, by omega⟩
              have hw6 : wn < 6 := by omega
              have hmo' : (m : Int) ≤ 9223372036854775801 := by omega
              have hw6' : (wn : Int) < 6 := by omega
              have hv : (m : Int) + (wn : Int) - (m : Int) = (wn : Int) := by omega
              have hnn : ¬ ((m + wn : Nat) : Int) < (m : Int) := by omega
              have him' : ((m + wn : Nat) : Int) < (m : Int) + 6 := by omega
              have hi60' : ((m + wn : Nat) : Int) < 60 := by omega
              have cg := HF.out.cell wn hw6
              cases hf : f wn with
              | true =>
                rw [hf] at cg
                clear hf
                go_wp2_with fail
                refine ⟨⟨m + wn + 1, H2, W2, by omega, by go_num, HR.out⟩, ?_⟩
                simp [intOf]; omega
              | false =>
                rw [hf] at cg
                have Hf := Lib.hid hf
                clear hf
                go_wp2_with fail
                have Hwn : Hid (wn < 6) := hw6
                refine (waits_g w _ t G H2 W2 HT2.out).mono ?_
                rintro e w2 ⟨A2, c2, rfl, hx2, hT3, hB3⟩
                have HT3 := Lib.hid hT3
                have HB3 := Lib.hid hB3
                have HF3 : Hid (BR w2 g 6 f) := HF.out.ext hx2
                clear hT3 hB3 hx2
                go_wp2_with fail
                refine (leave_g w _ t G H2 W2 wn HT3.out).mono ?_
                rintro e w3 ⟨A3, c3, G3, rfl, hm3, hT4, hG4, hB4⟩
                have HT4 := Lib.hid hT4
                have HB4 := Lib.hid hB4
                have HF4 : Hid (BR w3 g 6 f) := HF3.out.mod hm3 HG.out
                have HG4 : Hid (¬ G3 g) := fun h => by
                  rcases hG4 g h with h | h
                  · exact HG.out h
                  · have := HF3.out.lt; omega
                have HO4 : Hid (Own w3 29 4 (.slice A2 W2.length c2) W2.length (flat W2)) := HB3.out.mod hm3
                have HS4 : Hid (Whos (fun x => okWho f x ∧ x ≠ (wn : Int)) (leaveF wn H2 W2).1 (leaveF wn H2 W2).2.1) := HS2.out.left wn
                have Hsh := Lib.hid (leaveF_shape wn H2 W2)
                have Hsum := Lib.hid (leave_sum wn H2 W2)
                have hfew : H2.length + W2.length ≤ 256 := by
                  obtain ⟨hv, wv, ht, hF⟩ := HT2.out.2.1
                  exact ht.few
                have hfew2 : (leaveF wn H2 W2).1.length + (leaveF wn H2 W2).2.1.length ≤ 256 := by
                  obtain ⟨hv, wv, ht, hF⟩ := HT4.out.2.1
                  exact ht.few
                have HwT : Hid (∀ l ∈ (leaveF wn H2 W2).2.2, okWho f l.who ∧ l.who ≠ (wn : Int)) := fun l hl => by
                  obtain ⟨h1, h2⟩ := others_who (Hsh.out.2 l hl)
                  exact ⟨HS2.out.2 l h1, h2⟩
                obtain ⟨⟨H3, W3, T3⟩, hL⟩ : ∃ z, leaveF wn H2 W2 = z := ⟨_, rfl⟩
                rw [hL] at HT4 HB4 HS4 Hsh Hsum hfew2 HwT
                rw [hL]
                simp only at HT4 HB4 HS4 Hsh Hsum hfew2 HwT
                clear hm3 hT4 hG4 hB4 hL
                go_wp2_with fail
                refine (waits_g w _ t G3 H3 W3 HT4.out).mono ?_
                rintro e w4 ⟨A4, c4, rfl, hx4, hT5, -⟩
                have HT6 : Hid (TabG w (w4.setCell ⟨g, wn, none⟩ (.bool true)) t G3 H3 W3) := hT5.row HG4.out HGs.out
                have HF5 : BR w4 g 6 f := HF4.out.ext hx4
                have HF6 : Hid (BR (w4.setCell ⟨g, wn, none⟩ (.bool true)) g 6 (fun j => if j = wn then true else f j)) := HF5.set wn
                have HL6 : Hid (LkSl (w4.setCell ⟨g, wn, none⟩ (.bool true)) A2 W2.length W2) := LkSl.row (HO4.out.ext hx4) HF5
                have HL7 : Hid (LkSl (w4.setCell ⟨g, wn, none⟩ (.bool true)) A3 T3.length T3) := LkSl.row (HB4.out.1.ext hx4) HF5
                have cg4 := HF5.cell wn hw6
                have fg4 := HF5.frozen wn
                clear HF5 hT5 hx4 cg
                go_wp2_with fail
                generalize w4.setCell ⟨g, wn, none⟩ (.bool true) = w5 at *
                clear cg4 fg4
                go_loopw [13, 14] (fun cv jv wr => ∃ j : Nat, j ≤ W2.length ∧ jv = .int .i64 j ∧ cv = .int .i64 (mineN wn (W2.take j)) ∧ Ext w5 wr) (fun _ jv _ => W2.length - (intOf jv).toNat)
                case atStart => exact ⟨0, Nat.zero_le _, rfl, by simp [mineN], Ext.refl _⟩
                case round =>
                  obtain ⟨j, hj, rfl, rfl, hx⟩ := hrel
                  have Hx := Lib.hid hx
                  clear hx
                  have hmine : mineN wn (W2.take j) ≤ j := by
                    have h1 : mineN wn (W2.take j) ≤ (W2.take j).length := List.countP_le_length
                    have h2 := List.length_take_le j W2
                    omega
                  by_cases hjl : j < W2.length
                  · obtain ⟨y, hye⟩ : ∃ y, W2[j]? = some y := ⟨_, List.getElem?_eq_getElem hjl⟩
                    obtain ⟨bq, oq, rfl⟩ := HL6.out.form (by omega)
                    obtain ⟨p0, -, -, -⟩ := (HL6.out.ext Hx.out).at hye
                    have q0 := p0 _ (Ext.refl _)
                    have Hn := Lib.hid (mineN_take (who := wn) hye)
                    clear p0 hye
                    by_cases hyw : y.who = (wn : Int)
                    · have hb : (y.who == (wn : Int)) = true := by simpa using hyw
                      rw [if_pos hyw] at Hn
                      have Hn2 : Hid (((mineN wn (W2.take (j + 1)) : Nat) : Int) = (mineN wn (W2.take j) : Int) + 1) := by show _ = _; have := Hn.out; omega
                      clear hyw
                      go_wp2_with fail
                      go_roundw
                      case rel => exact ⟨j + 1, by omega, by go_num, by rw [Hn2.out], Hx.out⟩
                      case measure => simp [intOf]; omega
                    · have hb : (y.who == (wn : Int)) = false := by simpa using hyw
                      rw [if_neg hyw] at Hn
                      have Hn2 : Hid (((mineN wn (W2.take (j + 1)) : Nat) : Int) = (mineN wn (W2.take j) : Int)) := by show _ = _; have := Hn.out; omega
                      clear hyw
                      go_wp2_with fail
                      go_roundw
                      case rel => exact ⟨j + 1, by omega, by go_num, by rw [Hn2.out], Hx.out⟩
                      case measure => simp [intOf]; omega
                  · have hjn : W2.take j = W2 := List.take_of_length_le (by omega)
                    rw [hjn] at hmine
                    rw [hjn]
                    have hS := Hsum.out
                    have hsum : (W3.length : Int) + (T3.length : Int) + ((mineN wn W2 : Nat) : Int) = (W2.length : Int) := by omega
                    clear hjn
                    go_wp2_with fail
                    refine (held_g w _ t G3 H3 W3 (HT6.out.ext Hx.out)).mono ?_
                    rintro e w6 ⟨A6, c6, rfl, hx6, hT7, hB7⟩
                    have HT7 := Lib.hid hT7
                    have HH7 : Hid (LkSl w6 A6 H3.length H3) := LkSl.of_own hB7.1
                    have HX7 : Hid (Ext w5 w6) := Hx.out.trans hx6
                    have HF7 : Hid (BR w6 g 6 (fun j => if j = wn then true else f j)) := HF6.out.ext HX7.out
                    have HL8 : Hid (LkSl w6 A3 T3.length T3) := HL7.out.ext HX7.out
                    have Hlen : Hid (H3.length = (others wn H2).length + T3.length) := by show _ = _; rw [Hsh.out.1, List.length_append]
                    clear hT7 hB7 hx6
                    go_wp2_with fail
                    obtain ⟨wz, rfl⟩ : ∃ wz : World, wz = wr := ⟨_, rfl⟩
                    go_loopw [16] (fun jv wr => ∃ j : Nat, j ≤ T3.length ∧ jv = .int .i64 j ∧ Ext w6 wr) (fun jv _ => T3.length - (intOf jv).toNat)
                    case atStart => exact ⟨0, Nat.zero_le _, rfl, Ext.refl _⟩
                    case round =>
                      obtain ⟨q, hq, rfl, hx⟩ := hrel
                      have Hx8 := Lib.hid hx
                      clear hx
                      by_cases hql : q < T3.length
                      · obtain ⟨y, hye⟩ : ∃ y, T3[q] = y := ⟨_, rfl⟩
                        have hyt : T3[q]? = some y := by rw [List.getElem?_eq_getElem hql, hye]
                        obtain ⟨⟨z1, z2, z3⟩, z4⟩ := HwT.out y (hye ▸ List.getElem_mem hql)
                        have hyh : H3[(others wn H2).length + q]? = some y := by
                          rw [Hsh.out.1, List.getElem?_append_right (by omega), show (others wn H2).length + q - (others wn H2).length = q by omega, hyt]
                        have hlen := Hlen.out
                        generalize (others wn H2).length = o at hlen hyh
                        obtain ⟨bt, ot, rfl⟩ := HL8.out.form (by omega)
                        obtain ⟨bh, oh, rfl⟩ := HH7.out.form (by omega)
                        obtain ⟨p0, p1, p2, p3⟩ := (HL8.out.ext Hx8.out).at hyt
                        obtain ⟨r0, r1, r2, r3⟩ := (HH7.out.ext Hx8.out).at hyh
                        clear hyt hyh hye
                        obtain ⟨yw, yp, yn, ys⟩ := y
                        simp only at z1 z2 z3 z4 p0 p1 p2 p3 r0 r1 r2 r3
                        obtain ⟨ya, rfl⟩ := Int.eq_ofNat_of_zero_le z1
                        have hf8 : (if ya = wn then true else f ya) = false := by
                          rw [if_neg (by omega)]; simpa using z3
                        have cy : ∀ wx, Ext wr wx → wx.cell? ⟨g, ya, none⟩ = some (.bool false) := fun wx h => by
                          have := ((HF7.out.ext Hx8.out).ext h).cell ya (by omega)
                          rw [hf8] at this
                          exact this
                        have n1 : IntKind.i64.wrap ((H3.length : Int) - (T3.length : Int)) = (o : Int) := by rw [IntWalk.i64_in _ (by omega)]; omega
                        have n2 : IntKind.i64.wrap ((o : Int) + (q : Int)) = (o : Int) + (q : Int) := IntWalk.i64_in _ (by omega)
                        have n3 : ((o : Int) + (q : Int)).toNat = o + q := by omega
                        have n4 : 0 ≤ (o : Int) + (q : Int) := by omega
                        have n5 : (o : Int) + (q : Int) < (H3.length : Int) := by omega
                        have n6 : (T3.length : Int) ≤ (H3.length : Int) := by omega
                        have n6b : decide (H3.length < T3.length) = false := by simp; omega
                        have n7 : (q : Int) < (T3.length : Int) := by omega
                        have n8 : (ya : Int) < 6 := by omega
                        clear hf8 z3 z4 hlen
                        go_wp2_with fail
                        refine region_lin (fun wx => Ext wr wx) 100000 [(0, 0), (1, 0), (2, 0), (3, 0), (4, 0), (5, 0), (6, 0), (7, 0), (8, 0), (9, 0), (10, 0), (11, 0), (12, 0), (13, 0), (14, 0), (15, 0), (16, 0), (17, 0), (18, 0), (19, 0), (20, 0), (21, 0), (22, 0), (23, 0), (24, 0), (25, 0), (26, 0), (27, 0), (28, 0), (29, 0), (30, 0), (31, 0)] ?_ (by kernel_rfl) (by kernel_rfl) ?_ (fun _ _ _ _ _ h => h) ((Ext.refl _).drew) ?_
                        rotate_left
                        (simp only [planOps, List.mapM_cons, List.mapM_nil, List.getElem?_toArray, List.getElem?_cons_zero, List.getElem?_cons_succ, Option.map_some, Option.bind_eq_bind, Option.bind_some, Option.pure_def]; rfl)
                        intro wd hwd hxd
                        clear hxd
                        repeat (first | (refine lin_take ?_ (by rfl) (fun wx hx => ?_) ?_; rotate_left; go_simp; (with_reducible rfl); try simp only [Act.put, List.setIfInBounds_toArray, List.set_cons_zero, List.set_cons_succ]) | (refine lin_skip (by rfl) ?_; try simp only [Act.put, List.setIfInBounds_toArray, List.set_cons_zero, List.set_cons_succ]) | (refine lin_take3 ?_ (by rfl) (fun wx hx => ?_) ?_; rotate_left; go_simp; (with_reducible rfl); try simp only [Act.put, List.setIfInBounds_toArray, List.set_cons_zero, List.set_cons_succ]))
                        refine lin_nil ?_
                        have Hx10 : Hid (Ext w6 wd) := Hx8.out.trans hwd
                        clear hwd cy p0 p1 p2 p3 r0 r1 r2 r3 n1 n2 n3 n4 n5 n6 n6b
                        go_wp2_with fail
                        go_roundw
                        case rel => exact ⟨q + 1, by omega, by go_num, Hx10.out⟩
                        case measure => simp [intOf]; omega
                      · have HX9 : Hid (Ext w6 wr) := Hx8.out
                        go_wp2_with fail
                        obtain ⟨wy, rfl⟩ : ∃ wy : World, wy = wr := ⟨_, rfl⟩
                        go_loopw [17] (fun jv wr => ∃ j : Nat, j ≤ H3.length ∧ jv = .int .i64 j ∧ Ext w6 wr) (fun jv _ => H3.length - (intOf jv).toNat)
                        case atStart => exact ⟨0, Nat.zero_le _, rfl, HX9.out⟩
                        case round =>
                          obtain ⟨q2, hq2, rfl, hx⟩ := hrel
                          have Hx9 := Lib.hid hx
                          clear hx
                          by_cases hql2 : q2 < H3.length
                          · obtain ⟨y, hye⟩ : ∃ y, H3[q2] = y := ⟨_, rfl⟩
                            have hyt : H3[q2]? = some y := by rw [List.getElem?_eq_getElem hql2, hye]
                            have hyw := (HS4.out.1 y (hye ▸ List.getElem_mem hql2)).2
                            have hb : (y.who == (wn : Int)) = false := by simpa using hyw
                            obtain ⟨bh, oh, rfl⟩ := HH7.out.form (by omega)
                            obtain ⟨p0, -, -, -⟩ := (HH7.out.ext Hx9.out).at hyt
                            have q0 := p0 _ (Ext.refl _)
                            clear p0 hyt hye hyw
                            go_wp2_with fail
                            go_roundw
                            case rel => exact ⟨q2 + 1, by omega, by go_num, Hx9.out⟩
                            case measure => simp [intOf]; omega
                          · have HR2 : Hid (LR w t g H3 W3 wr) := by
                              refine ⟨G3, _, HT7.out.ext Hx9.out, HG4.out, HF7.out.ext Hx9.out, ?_, HGs.out⟩
                              have h0 : ∀ x : Int, (okWho f x ∧ x ≠ (wn : Int)) → okWho (fun j => if j = wn then true else f j) x := fun x ⟨⟨a1, a2, a3⟩, a4⟩ => ⟨a1, a2, by
                                show (if x.toNat = wn then true else f x.toNat) = false
                                rw [if_neg (by omega)]; exact a3⟩
                              exact ⟨fun l hl => h0 _ (HS4.out.1 l hl), fun l hl => h0 _ (HS4.out.2 l hl)⟩
                            go_wp2_with fail
                            go_roundw
                            case rel => exact ⟨m + wn + 1, H3, W3, by omega, by go_num, HR2.out⟩
                            case measure => simp [intOf]; omega
          · have HT9 : Hid (TabB w wr t H2 W2) := HT2.out.toB
            have HS9 : Hid (Whos (fun x => ((0 : Nat) : Int) ≤ x ∧ x < 6) H2 W2) := ⟨fun l hl => ⟨(HS2.out.1 l hl).1, (HS2.out.1 l hl).2.1⟩, fun l hl => ⟨(HS2.out.2 l hl).1, (HS2.out.2 l hl).2.1⟩⟩
            by_cases hmo : m ≤ 9223372036854775801
            · by_cases him : i < m + 6
              · have h60 : ¬ i < 60 := fun h => hgo ⟨h, him, hmo⟩
                have him' : (i : Int) < (m : Int) + 6 := by omega
                have h60' : ¬ (i : Int) < 60 := by omega
                clear hgo
                go_wp2_with fail
                go_loopw [18] (fun jv wr => ∃ (j : Nat) (H W : List Lk), j ≤ 6 ∧ jv = .int .i64 j ∧ TabB w wr t H W ∧ Whos (fun x => (j : Int) ≤ x ∧ x < 6) H W) (fun jv _ => 6 - (intOf jv).toNat)
                case atStart => exact ⟨0, H2, W2, by omega, rfl, HT9.out, HS9.out⟩
                case round =>
                  obtain ⟨j, H8, W8, hj, rfl, hT, hS⟩ := hrel
                  have HT := Lib.hid hT
                  have HS := Lib.hid hS
                  clear hT hS
                  by_cases hj6 : j < 6
                  · go_wp2_with fail
                    refine (leave_b w _ t H8 W8 j HT.out).mono ?_
                    rintro e w9 ⟨A9, c9, rfl, hT9, -⟩
                    have HTn := Lib.hid hT9
                    have HSn := Lib.hid (HS.out.left j)
                    clear hT9
                    go_wp2_with fail
                    go_roundw
                    case rel => exact ⟨j + 1, _, _, by omega, by go_num, HTn.out, ⟨fun l hl => by have := HSn.out.1 l hl; omega, fun l hl => by have := HSn.out.2 l hl; omega⟩⟩
                    case measure => simp [intOf]; omega
                  · obtain rfl : H8 = [] := List.eq_nil_iff_forall_not_mem.2 (fun l hl => by have := HS.out.1 l hl; omega)
                    obtain rfl : W8 = [] := List.eq_nil_iff_forall_not_mem.2 (fun l hl => by have := HS.out.2 l hl; omega)
                    go_wp2_with (first
                      | (go_at_call 11; refine (held_b w _ t [] [] HT.out).mono ?_; rintro e w6 ⟨A6, c6, rfl, hx6, hT6, -⟩; have HT6 := Lib.hid hT6; clear hT6)
                      | (go_at_call 12; refine (waits_b w _ t [] [] HT6.out).mono ?_; rintro e w7 ⟨A7, c7, rfl, hx7, hT7, -⟩; have HT7 := Lib.hid hT7; clear hT7)
                      | (go_at_call 15; refine (wakes_any _).mono ?_; rintro e w8 ⟨rfl, hx8⟩; have HX8 := Lib.hid (HT7.out.1.trans hx8); clear hx8))
                    go_ret
                    exact ⟨rfl, HX8.out⟩
              · have him' : ¬ (i : Int) < (m : Int) + 6 := by omega
                clear hgo
                go_wp2_with fail
                go_loopw [18] (fun jv wr => ∃ (j : Nat) (H W : List Lk), j ≤ 6 ∧ jv = .int .i64 j ∧ TabB w wr t H W ∧ Whos (fun x => (j : Int) ≤ x ∧ x < 6) H W) (fun jv _ => 6 - (intOf jv).toNat)
                case atStart => exact ⟨0, H2, W2, by omega, rfl, HT9.out, HS9.out⟩
                case round =>
                  obtain ⟨j, H8, W8, hj, rfl, hT, hS⟩ := hrel
                  have HT := Lib.hid hT
                  have HS := Lib.hid hS
                  clear hT hS
                  by_cases hj6 : j < 6
                  · go_wp2_with fail
                    refine (leave_b w _ t H8 W8 j HT.out).mono ?_
                    rintro e w9 ⟨A9, c9, rfl, hT9, -⟩
                    have HTn := Lib.hid hT9
                    have HSn := Lib.hid (HS.out.left j)
                    clear hT9
                    go_wp2_with fail
                    go_roundw
                    case rel => exact ⟨j + 1, _, _, by omega, by go_num, HTn.out, ⟨fun l hl => by have := HSn.out.1 l hl; omega, fun l hl => by have := HSn.out.2 l hl; omega⟩⟩
                    case measure => simp [intOf]; omega
                  · obtain rfl : H8 = [] := List.eq_nil_iff_forall_not_mem.2 (fun l hl => by have := HS.out.1 l hl; omega)
                    obtain rfl : W8 = [] := List.eq_nil_iff_forall_not_mem.2 (fun l hl => by have := HS.out.2 l hl; omega)
                    go_wp2_with (first
                      | (go_at_call 11; refine (held_b w _ t [] [] HT.out).mono ?_; rintro e w6 ⟨A6, c6, rfl, hx6, hT6, -⟩; have HT6 := Lib.hid hT6; clear hT6)
                      | (go_at_call 12; refine (waits_b w _ t [] [] HT6.out).mono ?_; rintro e w7 ⟨A7, c7, rfl, hx7, hT7, -⟩; have HT7 := Lib.hid hT7; clear hT7)
                      | (go_at_call 15; refine (wakes_any _).mono ?_; rintro e w8 ⟨rfl, hx8⟩; have HX8 := Lib.hid (HT7.out.1.trans hx8); clear hx8))
                    go_ret
                    exact ⟨rfl, HX8.out⟩
            · have n1 : IntKind.i64.wrap ((m : Int) + 6) = (m : Int) + 6 - 18446744073709551616 := by rw [IntKind.wrap_i64]; omega
              have n2 : ¬ (i : Int) < (m : Int) + 6 - 18446744073709551616 := by omega
              clear hgo
              go_wp2_with fail
              go_loopw [18] (fun jv wr => ∃ (j : Nat) (H W : List Lk), j ≤ 6 ∧ jv = .int .i64 j ∧ TabB w wr t H W ∧ Whos (fun x => (j : Int) ≤ x ∧ x < 6) H W) (fun jv _ => 6 - (intOf jv).toNat)
              case atStart => exact ⟨0, H2, W2, by omega, rfl, HT9.out, HS9.out⟩
              case round =>
                obtain ⟨j, H8, W8, hj, rfl, hT, hS⟩ := hrel
                have HT := Lib.hid hT
                have HS := Lib.hid hS
                clear hT hS
                by_cases hj6 : j < 6
                · go_wp2_with fail
                  refine (leave_b w _ t H8 W8 j HT.out).mono ?_
                  rintro e w9 ⟨A9, c9, rfl, hT9, -⟩
                  have HTn := Lib.hid hT9
                  have HSn := Lib.hid (HS.out.left j)
                  clear hT9
                  go_wp2_with fail
                  go_roundw
                  case rel => exact ⟨j + 1, _, _, by omega, by go_num, HTn.out, ⟨fun l hl => by have := HSn.out.1 l hl; omega, fun l hl => by have := HSn.out.2 l hl; omega⟩⟩
                  case measure => simp [intOf]; omega
                · obtain rfl : H8 = [] := List.eq_nil_iff_forall_not_mem.2 (fun l hl => by have := HS.out.1 l hl; omega)
                  obtain rfl : W8 = [] := List.eq_nil_iff_forall_not_mem.2 (fun l hl => by have := HS.out.2 l hl; omega)
                  go_wp2_with (first
                    | (go_at_call 11; refine (held_b w _ t [] [] HT.out).mono ?_; rintro e w6 ⟨A6, c6, rfl, hx6, hT6, -⟩; have HT6 := Lib.hid hT6; clear hT6)
                    | (go_at_call 12; refine (waits_b w _ t [] [] HT6.out).mono ?_; rintro e w7 ⟨A7, c7, rfl, hx7, hT7, -⟩; have HT7 := Lib.hid hT7; clear hT7)
                    | (go_at_call 15; refine (wakes_any _).mono ?_; rintro e w8 ⟨rfl, hx8⟩; have HX8 := Lib.hid (HT7.out.1.trans hx8); clear hx8))
                  go_ret
                  exact ⟨rfl, HX8.out⟩
      · clear hgo
        go_wp2_with fail
        obtain ⟨wg, hwg⟩ : ∃ wg : World, wr.alloc (.cells (Array.replicate 6 (.bool false)) 4) = wg := ⟨_, rfl⟩
        obtain ⟨g, hg⟩ : ∃ g, wr.heap.size = g := ⟨_, rfl⟩
        rw [hwg, hg] at HR0
        rw [hwg, hg]
        clear hwg hg
        go_loopw [8] (fun i wr => ∃ (i' : Nat) (H W : List Lk), i' ≤ 60 ∧ i = .int .i64 i' ∧ LR w t g H W wr) (fun i _ => 60 - (intOf i).toNat)
        case atStart => exact ⟨0, H, W, by omega, rfl, HR0.out⟩
        case round =>
          obtain ⟨i, H2, W2, hi, rfl, hR⟩ := hrel
          have HR := Lib.hid hR
          obtain ⟨G, f, hT2, hG, hF, hS2, hgs⟩ := hR
          have HT2 := Lib.hid hT2
          have HG := Lib.hid hG
          have HF := Lib.hid hF
          have HS2 := Lib.hid hS2
          have HGs := Lib.hid hgs
          clear hT2 hG hF hS2 hgs
          by_cases hgo : i < 60 ∧ i < m + 6 ∧ m ≤ 9223372036854775801
          · obtain ⟨hi60, him, hmo⟩ := hgo
            by_cases hi0 : i < m
            · obtain ⟨bo, oo, rfl, hbo, hco⟩ := (HY.out.ext HT2.out.1).2 (by omega)
              have hil : i < ys.length := by have := HY.out.1; omega
              obtain ⟨hx, cx⟩ := hco i ys[i] (List.getElem?_eq_getElem hil)
              generalize ys[i] = x at hx cx
              clear hco
              have him' : (i : Int) < (m : Int) + 6 := by omega
              have hi60' : (i : Int) < 60 := by omega
              have cg := HF.out.cell (x % 6) (by omega)
              cases hf : f (x % 6) with
              | true =>
                rw [hf] at cg
                clear hf
                go_wp2_with fail
                refine ⟨⟨i + 1, H2, W2, by omega, by go_num, HR.out⟩, ?_⟩
                simp [intOf]; omega
              | false =>
                rw [hf] at cg
                have Hf := Lib.hid hf
                clear hf
                go_wp2_with fail
                rw [show ((x : Int) % 6) = ((x % 6 : Nat) : Int) by omega]
                have hw6 : x % 6 < 6 := by omega
                clear cx
                generalize x % 6 = wn at *
                have Hwn : Hid (wn < 6) := hw6
                refine (waits_g w _ t G H2 W2 HT2.out).mono ?_
                rintro e w2 ⟨A2, c2, rfl, hx2, hT3, hB3⟩
                have HT3 := Lib.hid hT3
                have HB3 := Lib.hid hB3
                have HF3 : Hid (BR w2 g 6 f) := HF.out.ext hx2
                clear hT3 hB3 hx2
                go_wp2_with fail
                refine (leave_g w _ t G H2 W2 wn HT3.out).mono ?_
                rintro e w3 ⟨A3, c3, G3, rfl, hm3, hT4, hG4, hB4⟩
                have HT4 := Lib.hid hT4
                have HB4 := Lib.hid hB4
                have HF4 : Hid (BR w3 g 6 f) := HF3.out.mod hm3 HG.out
                have HG4 : Hid (¬ G3 g) := fun h => by
                  rcases hG4 g h with h | h
                  · exact HG.out h
                  · have := HF3.out.lt; omega
                have HO4 : Hid (Own w3 29 4 (.slice A2 W2.length c2) W2.length (flat W2)) := HB3.out.mod hm3
                have HS4 : Hid (Whos (fun x => okWho f x ∧ x ≠ (wn : Int)) (leaveF wn H2 W2).1 (leaveF wn H2 W2).2.1) := HS2.out.left wn
                have Hsh := Lib.hid (leaveF_shape wn H2 W2)
                have Hsum := Lib.hid (leave_sum wn H2 W2)
                have hfew : H2.length + W2.length ≤ 256 := by
                  obtain ⟨hv, wv, ht, hF⟩ := HT2.out.2.1
                  exact ht.few
                have hfew2 : (leaveF wn H2 W2).1.length + (leaveF wn H2 W2).2.1.length ≤ 256 := by
                  obtain ⟨hv, wv, ht, hF⟩ := HT4.out.2.1
                  exact ht.few
                have HwT : Hid (∀ l ∈ (leaveF wn H2 W2).2.2, okWho f l.who ∧ l.who ≠ (wn : Int)) := fun l hl => by
                  obtain ⟨h1, h2⟩ := others_who (Hsh.out.2 l hl)
                  exact ⟨HS2.out.2 l h1, h2⟩
                obtain ⟨⟨H3, W3, T3⟩, hL⟩ : ∃ z, leaveF wn H2 W2 = z := ⟨_, rfl⟩
                rw [hL] at HT4 HB4 HS4 Hsh Hsum hfew2 HwT
                rw [hL]
                simp only at HT4 HB4 HS4 Hsh Hsum hfew2 HwT
                clear hm3 hT4 hG4 hB4 hL
                go_wp2_with fail
                refine (waits_g w _ t G3 H3 W3 HT4.out).mono ?_
                rintro e w4 ⟨A4, c4, rfl, hx4, hT5, -⟩
                have HT6 : Hid (TabG w (w4.setCell ⟨g, wn, none⟩ (.bool true)) t G3 H3 W3) := hT5.row HG4.out HGs.out
                have HF5 : BR w4 g 6 f := HF4.out.ext hx4
                have HF6 : Hid (BR (w4.setCell ⟨g, wn, none⟩ (.bool true)) g 6 (fun j => if j = wn then true else f j)) := HF5.set wn
                have HL6 : Hid (LkSl (w4.setCell ⟨g, wn, none⟩ (.bool true)) A2 W2.length W2) := LkSl.row (HO4.out.ext hx4) HF5
                have HL7 : Hid (LkSl (w4.setCell ⟨g, wn, none⟩ (.bool true)) A3 T3.length T3) := LkSl.row (HB4.out.1.ext hx4) HF5
                have cg4 := HF5.cell wn hw6
                have fg4 := HF5.frozen wn
                clear HF5 hT5 hx4 cg
                go_wp2_with fail
                generalize w4.setCell ⟨g, wn, none⟩ (.bool true) = w5 at *
                clear cg4 fg4
                go_loopw [13, 14] (fun cv jv wr => ∃ j : Nat, j ≤ W2.length ∧ jv = .int .i64 j ∧ cv = .int .i64 (mineN wn (W2.take j)) ∧ Ext w5 wr) (fun _ jv _ => W2.length - (intOf jv).toNat)
                case atStart => exact ⟨0, Nat.zero_le _, rfl, by simp [mineN], Ext.refl _⟩
                case round =>
                  obtain ⟨j, hj, rfl, rfl, hx⟩ := hrel
                  have Hx := Lib.hid hx
                  clear hx
                  have hmine : mineN wn (W2.take j) ≤ j := by
                    have h1 : mineN wn (W2.take j) ≤ (W2.take j).length := List.countP_le_length
                    have h2 := List.length_take_le j W2
                    omega
                  by_cases hjl : j < W2.length
                  · obtain ⟨y, hye⟩ : ∃ y, W2[j]? = some y := ⟨_, List.getElem?_eq_getElem hjl⟩
                    obtain ⟨bq, oq, rfl⟩ := HL6.out.form (by omega)
                    obtain ⟨p0, -, -, -⟩ := (HL6.out.ext Hx.out).at hye
                    have q0 := p0 _ (Ext.refl _)
                    have Hn := Lib.hid (mineN_take (who := wn) hye)
                    clear p0 hye
                    by_cases hyw : y.who = (wn : Int)
                    · have hb : (y.who == (wn : Int)) = true := by simpa using hyw
                      rw [if_pos hyw] at Hn
                      have Hn2 : Hid (((mineN wn (W2.take (j + 1)) : Nat) : Int) = (mineN wn (W2.take j) : Int) + 1) := by show _ = _; have := Hn.out; omega
                      clear hyw
                      go_wp2_with fail
                      go_roundw
                      case rel => exact ⟨j + 1, by omega, by go_num, by rw [Hn2.out], Hx.out⟩
                      case measure => simp [intOf]; omega
                    · have hb : (y.who == (wn : Int)) = false := by simpa using hyw
                      rw [if_neg hyw] at Hn
                      have Hn2 : Hid (((mineN wn (W2.take (j + 1)) : Nat) : Int) = (mineN wn (W2.take j) : Int)) := by show _ = _; have := Hn.out; omega
                      clear hyw
                      go_wp2_with fail
                      go_roundw
                      case rel => exact ⟨j + 1, by omega, by go_num, by rw [Hn2.out], Hx.out⟩
                      case measure => simp [intOf]; omega
                  · have hjn : W2.take j = W2 := List.take_of_length_le (by omega)
                    rw [hjn] at hmine
                    rw [hjn]
                    have hS := Hsum.out
                    have hsum : (W3.length : Int) + (T3.length : Int) + ((mineN wn W2 : Nat) : Int) = (W2.length : Int) := by omega
                    clear hjn
                    go_wp2_with fail
                    refine (held_g w _ t G3 H3 W3 (HT6.out.ext Hx.out)).mono ?_
                    rintro e w6 ⟨A6, c6, rfl, hx6, hT7, hB7⟩
                    have HT7 := Lib.hid hT7
                    have HH7 : Hid (LkSl w6 A6 H3.length H3) := LkSl.of_own hB7.1
                    have HX7 : Hid (Ext w5 w6) := Hx.out.trans hx6
                    have HF7 : Hid (BR w6 g 6 (fun j => if j = wn then true else f j)) := HF6.out.ext HX7.out
                    have HL8 : Hid (LkSl w6 A3 T3.length T3) := HL7.out.ext HX7.out
                    have Hlen : Hid (H3.length = (others wn H2).length + T3.length) := by show _ = _; rw [Hsh.out.1, List.length_append]
                    clear hT7 hB7 hx6
                    go_wp2_with fail
                    obtain ⟨wz, rfl⟩ : ∃ wz : World, wz = wr := ⟨_, rfl⟩
                    go_loopw [16] (fun jv wr => ∃ j : Nat, j ≤ T3.length ∧ jv = .int .i64 j ∧ Ext w6 wr) (fun jv _ => T3.length - (intOf jv).toNat)
                    case atStart => exact ⟨0, Nat.zero_le _, rfl, Ext.refl _⟩
                    case round =>
                      obtain ⟨q, hq, rfl, hx⟩ := hrel
                      have Hx8 := Lib.hid hx
                      clear hx
                      by_cases hql : q < T3.length
                      · obtain ⟨y, hye⟩ : ∃ y, T3[q] = y := ⟨_, rfl⟩
                        have hyt : T3[q]? = some y := by rw [List.getElem?_eq_getElem hql, hye]
                        obtain ⟨⟨z1, z2, z3⟩, z4⟩ := HwT.out y (hye ▸ List.getElem_mem hql)
                        have hyh : H3[(others wn H2).length + q]? = some y := by
                          rw [Hsh.out.1, List.getElem?_append_right (by omega), show (others wn H2).length + q - (others wn H2).length = q by omega, hyt]
                        have hlen := Hlen.out
                        generalize (others wn H2).length = o at hlen hyh
                        obtain ⟨bt, ot, rfl⟩ := HL8.out.form (by omega)
                        obtain ⟨bh, oh, rfl⟩ := HH7.out.form (by omega)
                        obtain ⟨p0, p1, p2, p3⟩ := (HL8.out.ext Hx8.out).at hyt
                        obtain ⟨r0, r1, r2, r3⟩ := (HH7.out.ext Hx8.out).at hyh
                        clear hyt hyh hye
                        obtain ⟨yw, yp, yn, ys⟩ := y
                        simp only at z1 z2 z3 z4 p0 p1 p2 p3 r0 r1 r2 r3
                        obtain ⟨ya, rfl⟩ := Int.eq_ofNat_of_zero_le z1
                        have hf8 : (if ya = wn then true else f ya) = false := by
                          rw [if_neg (by omega)]; simpa using z3
                        have cy : ∀ wx, Ext wr wx → wx.cell? ⟨g, ya, none⟩ = some (.bool false) := fun wx h => by
                          have := ((HF7.out.ext Hx8.out).ext h).cell ya (by omega)
                          rw [hf8] at this
                          exact this
                        have n1 : IntKind.i64.wrap ((H3.length : Int) - (T3.length : Int)) = (o : Int) := by rw [IntWalk.i64_in _ (by omega)]; omega
                        have n2 : IntKind.i64.wrap ((o : Int) + (q : Int)) = (o : Int) + (q : Int) := IntWalk.i64_in _ (by omega)
                        have n3 : ((o : Int) + (q : Int)).toNat = o + q := by omega
                        have n4 : 0 ≤ (o : Int) + (q : Int) := by omega
                        have n5 : (o : Int) + (q : Int) < (H3.length : Int) := by omega
                        have n6 : (T3.length : Int) ≤ (H3.length : Int) := by omega
                        have n6b : decide (H3.length < T3.length) = false := by simp; omega
                        have n7 : (q : Int) < (T3.length : Int) := by omega
                        have n8 : (ya : Int) < 6 := by omega
                        clear hf8 z3 z4 hlen
                        go_wp2_with fail
                        refine region_lin (fun wx => Ext wr wx) 100000 [(0, 0), (1, 0), (2, 0), (3, 0), (4, 0), (5, 0), (6, 0), (7, 0), (8, 0), (9, 0), (10, 0), (11, 0), (12, 0), (13, 0), (14, 0), (15, 0), (16, 0), (17, 0), (18, 0), (19, 0), (20, 0), (21, 0), (22, 0), (23, 0), (24, 0), (25, 0), (26, 0), (27, 0), (28, 0), (29, 0), (30, 0), (31, 0)] ?_ (by kernel_rfl) (by kernel_rfl) ?_ (fun _ _ _ _ _ h => h) ((Ext.refl _).drew) ?_
                        rotate_left
                        (simp only [planOps, List.mapM_cons, List.mapM_nil, List.getElem?_toArray, List.getElem?_cons_zero, List.getElem?_cons_succ, Option.map_some, Option.bind_eq_bind, Option.bind_some, Option.pure_def]; rfl)
                        intro wd hwd hxd
                        clear hxd
                        repeat (first | (refine lin_take ?_ (by rfl) (fun wx hx => ?_) ?_; rotate_left; go_simp; (with_reducible rfl); try simp only [Act.put, List.setIfInBounds_toArray, List.set_cons_zero, List.set_cons_succ]) | (refine lin_skip (by rfl) ?_; try simp only [Act.put, List.setIfInBounds_toArray, List.set_cons_zero, List.set_cons_succ]) | (refine lin_take3 ?_ (by rfl) (fun wx hx => ?_) ?_; rotate_left; go_simp; (with_reducible rfl); try simp only [Act.put, List.setIfInBounds_toArray, List.set_cons_zero, List.set_cons_succ]))
                        refine lin_nil ?_
                        have Hx10 : Hid (Ext w6 wd) := Hx8.out.trans hwd
                        clear hwd cy p0 p1 p2 p3 r0 r1 r2 r3 n1 n2 n3 n4 n5 n6 n6b
                        go_wp2_with fail
                        go_roundw
                        case rel => exact ⟨q + 1, by omega, by go_num, Hx10.out⟩
                        case measure => simp [intOf]; omega
                      · have HX9 : Hid (Ext w6 wr) := Hx8.out
                        go_wp2_with fail
                        obtain ⟨wy, rfl⟩ : ∃ wy : World, wy = wr := ⟨_, rfl⟩
                        go_loopw [17] (fun jv wr => ∃ j : Nat, j ≤ H3.length ∧ jv = .int .i64 j ∧ Ext w6 wr) (fun jv _ => H3.length - (intOf jv).toNat)
                        case atStart => exact ⟨0, Nat.zero_le _, rfl, HX9.out⟩
                        case round =>
                          obtain ⟨q2, hq2, rfl, hx⟩ := hrel
                          have Hx9 := Lib.hid hx
                          clear hx
                          by_cases hql2 : q2 < H3.length
                          · obtain ⟨y, hye⟩ : ∃ y, H3[q2] = y := ⟨_, rfl⟩
                            have hyt : H3[q2]? = some y := by rw [List.getElem?_eq_getElem hql2, hye]
                            have hyw := (HS4.out.1 y (hye ▸ List.getElem_mem hql2)).2
                            have hb : (y.who == (wn : Int)) = false := by simpa using hyw
                            obtain ⟨bh, oh, rfl⟩ := HH7.out.form (by omega)
                            obtain ⟨p0, -, -, -⟩ := (HH7.out.ext Hx9.out).at hyt
                            have q0 := p0 _ (Ext.refl _)
                            clear p0 hyt hye hyw
                            go_wp2_with fail
                            go_roundw
                            case rel => exact ⟨q2 + 1, by omega, by go_num, Hx9.out⟩
                            case measure => simp [intOf]; omega
                          · have HR2 : Hid (LR w t g H3 W3 wr) := by
                              refine ⟨G3, _, HT7.out.ext Hx9.out, HG4.out, HF7.out.ext Hx9.out, ?_, HGs.out⟩
                              have h0 : ∀ x : Int, (okWho f x ∧ x ≠ (wn : Int)) → okWho (fun j => if j = wn then true else f j) x := fun x ⟨⟨a1, a2, a3⟩, a4⟩ => ⟨a1, a2, by
                                show (if x.toNat = wn then true else f x.toNat) = false
                                rw [if_neg (by omega)]; exact a3⟩
                              exact ⟨fun l hl => h0 _ (HS4.out.1 l hl), fun l hl => h0 _ (HS4.out.2 l hl)⟩
                            go_wp2_with fail
                            go_roundw
                            case rel => exact ⟨i + 1, H3, W3, by omega, by go_num, HR2.out⟩
                            case measure => simp [intOf]; omega
            · obtain ⟨wn, rfl⟩ : ∃ wn, i = m + wn := ⟨i - m, by omega⟩
              have hw6 : wn < 6 := by omega
              have hmo' : (m : Int) ≤ 9223372036854775801 := by omega
              have hw6' : (wn : Int) < 6 := by omega
              have hv : (m : Int) + (wn : Int) - (m : Int) = (wn : Int) := by omega
              have hnn : ¬ ((m + wn : Nat) : Int) < (m : Int) := by omega
              have him' : ((m + wn : Nat) : Int) < (m : Int) + 6 := by omega
              have hi60' : ((m + wn : Nat) : Int) < 60 := by omega
              have cg := HF.out.cell wn hw6
              cases hf : f wn with
              | true =>
                rw [hf] at cg
                clear hf
                go_wp2_with fail
                refine ⟨⟨m + wn + 1, H2, W2, by omega, by go_num, HR.out⟩, ?_⟩
                simp [intOf]; omega
              | false =>
                rw [hf] at cg
                have Hf := Lib.hid hf
                clear hf
                go_wp2_with fail
                have Hwn : Hid (wn < 6) := hw6
                refine (waits_g w _ t G H2 W2 HT2.out).mono ?_
                rintro e w2 ⟨A2, c2, rfl, hx2, hT3, hB3⟩
                have HT3 := Lib.hid hT3
                have HB3 := Lib.hid hB3
                have HF3 : Hid (BR w2 g 6 f) := HF.out.ext hx2
                clear hT3 hB3 hx2
                go_wp2_with fail
                refine (leave_g w _ t G H2 W2 wn HT3.out).mono ?_
                rintro e w3 ⟨A3, c3, G3, rfl, hm3, hT4, hG4, hB4⟩
                have HT4 := Lib.hid hT4
                have HB4 := Lib.hid hB4
                have HF4 : Hid (BR w3 g 6 f) := HF3.out.mod hm3 HG.out
                have HG4 : Hid (¬ G3 g) := fun h => by
                  rcases hG4 g h with h | h
                  · exact HG.out h
                  · have := HF3.out.lt; omega
                have HO4 : Hid (Own w3 29 4 (.slice A2 W2.length c2) W2.length (flat W2)) := HB3.out.mod hm3
                have HS4 : Hid (Whos (fun x => okWho f x ∧ x ≠ (wn : Int)) (leaveF wn H2 W2).1 (leaveF wn H2 W2).2.1) := HS2.out.left wn
                have Hsh := Lib.hid (leaveF_shape wn H2 W2)
                have Hsum := Lib.hid (leave_sum wn H2 W2)
                have hfew : H2.length + W2.length ≤ 256 := by
                  obtain ⟨hv, wv, ht, hF⟩ := HT2.out.2.1
                  exact ht.few
                have hfew2 : (leaveF wn H2 W2).1.length + (leaveF wn H2 W2).2.1.length ≤ 256 := by
                  obtain ⟨hv, wv, ht, hF⟩ := HT4.out.2.1
                  exact ht.few
                have HwT : Hid (∀ l ∈ (leaveF wn H2 W2).2.2, okWho f l.who ∧ l.who ≠ (wn : Int)) := fun l hl => by
                  obtain ⟨h1, h2⟩ := others_who (Hsh.out.2 l hl)
                  exact ⟨HS2.out.2 l h1, h2⟩
                obtain ⟨⟨H3, W3, T3⟩, hL⟩ : ∃ z, leaveF wn H2 W2 = z := ⟨_, rfl⟩
                rw [hL] at HT4 HB4 HS4 Hsh Hsum hfew2 HwT
                rw [hL]
                simp only at HT4 HB4 HS4 Hsh Hsum hfew2 HwT
                clear hm3 hT4 hG4 hB4 hL
                go_wp2_with fail
                refine (waits_g w _ t G3 H3 W3 HT4.out).mono ?_
                rintro e w4 ⟨A4, c4, rfl, hx4, hT5, -⟩
                have HT6 : Hid (TabG w (w4.setCell ⟨g, wn, none⟩ (.bool true)) t G3 H3 W3) := hT5.row HG4.out HGs.out
                have HF5 : BR w4 g 6 f := HF4.out.ext hx4
                have HF6 : Hid (BR (w4.setCell ⟨g, wn, none⟩ (.bool true)) g 6 (fun j => if j = wn then true else f j)) := HF5.set wn
                have HL6 : Hid (LkSl (w4.setCell ⟨g, wn, none⟩ (.bool true)) A2 W2.length W2) := LkSl.row (HO4.out.ext hx4) HF5
                have HL7 : Hid (LkSl (w4.setCell ⟨g, wn, none⟩ (.bool true)) A3 T3.length T3) := LkSl.row (HB4.out.1.ext hx4) HF5
                have cg4 := HF5.cell wn hw6
                have fg4 := HF5.frozen wn
                clear HF5 hT5 hx4 cg
                go_wp2_with fail
                generalize w4.setCell ⟨g, wn, none⟩ (.bool true) = w5 at *
                clear cg4 fg4
                go_loopw [13, 14] (fun cv jv wr => ∃ j : Nat, j ≤ W2.length ∧ jv = .int .i64 j ∧ cv = .int .i64 (mineN wn (W2.take j)) ∧ Ext w5 wr) (fun _ jv _ => W2.length - (intOf jv).toNat)
                case atStart => exact ⟨0, Nat.zero_le _, rfl, by simp [mineN], Ext.refl _⟩
                case round =>
                  obtain ⟨j, hj, rfl, rfl, hx⟩ := hrel
                  have Hx := Lib.hid hx
                  clear hx
                  have hmine : mineN wn (W2.take j) ≤ j := by
                    have h1 : mineN wn (W2.take j) ≤ (W2.take j).length := List.countP_le_length
                    have h2 := List.length_take_le j W2
                    omega
                  by_cases hjl : j < W2.length
                  · obtain ⟨y, hye⟩ : ∃ y, W2[j]? = some y := ⟨_, List.getElem?_eq_getElem hjl⟩
                    obtain ⟨bq, oq, rfl⟩ := HL6.out.form (by omega)
                    obtain ⟨p0, -, -, -⟩ := (HL6.out.ext Hx.out).at hye
                    have q0 := p0 _ (Ext.refl _)
                    have Hn := Lib.hid (mineN_take (who := wn) hye)
                    clear p0 hye
                    by_cases hyw : y.who = (wn : Int)
                    · have hb : (y.who == (wn : Int)) = true := by simpa using hyw
                      rw [if_pos hyw] at Hn
                      have Hn2 : Hid (((mineN wn (W2.take (j + 1)) : Nat) : Int) = (mineN wn (W2.take j) : Int) + 1) := by show _ = _; have := Hn.out; omega
                      clear hyw
                      go_wp2_with fail
                      go_roundw
                      case rel => exact ⟨j + 1, by omega, by go_num, by rw [Hn2.out], Hx.out⟩
                      case measure => simp [intOf]; omega
                    · have hb : (y.who == (wn : Int)) = false := by simpa using hyw
                      rw [if_neg hyw] at Hn
                      have Hn2 : Hid (((mineN wn (W2.take (j + 1)) : Nat) : Int) = (mineN wn (W2.take j) : Int)) := by show _ = _; have := Hn.out; omega
                      clear hyw
                      go_wp2_with fail
                      go_roundw
                      case rel => exact ⟨j + 1, by omega, by go_num, by rw [Hn2.out], Hx.out⟩
                      case measure => simp [intOf]; omega
                  · have hjn : W2.take j = W2 := List.take_of_length_le (by omega)
                    rw [hjn] at hmine
                    rw [hjn]
                    have hS := Hsum.out
                    have hsum : (W3.length : Int) + (T3.length : Int) + ((mineN wn W2 : Nat) : Int) = (W2.length : Int) := by omega
                    clear hjn
                    go_wp2_with fail
                    refine (held_g w _ t G3 H3 W3 (HT6.out.ext Hx.out)).mono ?_
                    rintro e w6 ⟨A6, c6, rfl, hx6, hT7, hB7⟩
                    have HT7 := Lib.hid hT7
                    have HH7 : Hid (LkSl w6 A6 H3.length H3) := LkSl.of_own hB7.1
                    have HX7 : Hid (Ext w5 w6) := Hx.out.trans hx6
                    have HF7 : Hid (BR w6 g 6 (fun j => if j = wn then true else f j)) := HF6.out.ext HX7.out
                    have HL8 : Hid (LkSl w6 A3 T3.length T3) := HL7.out.ext HX7.out
                    have Hlen : Hid (H3.length = (others wn H2).length + T3.length) := by show _ = _; rw [Hsh.out.1, List.length_append]
                    clear hT7 hB7 hx6
                    go_wp2_with fail
                    obtain ⟨wz, rfl⟩ : ∃ wz : World, wz = wr := ⟨_, rfl⟩
                    go_loopw [16] (fun jv wr => ∃ j : Nat, j ≤ T3.length ∧ jv = .int .i64 j ∧ Ext w6 wr) (fun jv _ => T3.length - (intOf jv).toNat)
                    case atStart => exact ⟨0, Nat.zero_le _, rfl, Ext.refl _⟩
                    case round =>
                      obtain ⟨q, hq, rfl, hx⟩ := hrel
                      have Hx8 := Lib.hid hx
                      clear hx
                      by_cases hql : q < T3.length
                      · obtain ⟨y, hye⟩ : ∃ y, T3[q] = y := ⟨_, rfl⟩
                        have hyt : T3[q]? = some y := by rw [List.getElem?_eq_getElem hql, hye]
                        obtain ⟨⟨z1, z2, z3⟩, z4⟩ := HwT.out y (hye ▸ List.getElem_mem hql)
                        have hyh : H3[(others wn H2).length + q]? = some y := by
                          rw [Hsh.out.1, List.getElem?_append_right (by omega), show (others wn H2).length + q - (others wn H2).length = q by omega, hyt]
                        have hlen := Hlen.out
                        generalize (others wn H2).length = o at hlen hyh
                        obtain ⟨bt, ot, rfl⟩ := HL8.out.form (by omega)
                        obtain ⟨bh, oh, rfl⟩ := HH7.out.form (by omega)
                        obtain ⟨p0, p1, p2, p3⟩ := (HL8.out.ext Hx8.out).at hyt
                        obtain ⟨r0, r1, r2, r3⟩ := (HH7.out.ext Hx8.out).at hyh
                        clear hyt hyh hye
                        obtain ⟨yw, yp, yn, ys⟩ := y
                        simp only at z1 z2 z3 z4 p0 p1 p2 p3 r0 r1 r2 r3
                        obtain ⟨ya, rfl⟩ := Int.eq_ofNat_of_zero_le z1
                        have hf8 : (if ya = wn then true else f ya) = false := by
                          rw [if_neg (by omega)]; simpa using z3
                        have cy : ∀ wx, Ext wr wx → wx.cell? ⟨g, ya, none⟩ = some (.bool false) := fun wx h => by
                          have := ((HF7.out.ext Hx8.out).ext h).cell ya (by omega)
                          rw [hf8] at this
                          exact this
                        have n1 : IntKind.i64.wrap ((H3.length : Int) - (T3.length : Int)) = (o : Int) := by rw [IntWalk.i64_in _ (by omega)]; omega
                        have n2 : IntKind.i64.wrap ((o : Int) + (q : Int)) = (o : Int) + (q : Int) := IntWalk.i64_in _ (by omega)
                        have n3 : ((o : Int) + (q : Int)).toNat = o + q := by omega
                        have n4 : 0 ≤ (o : Int) + (q : Int) := by omega
                        have n5 : (o : Int) + (q : Int) < (H3.length : Int) := by omega
                        have n6 : (T3.length : Int) ≤ (H3.length : Int) := by omega
                        have n6b : decide (H3.length < T3.length) = false := by simp; omega
                        have n7 : (q : Int) < (T3.length : Int) := by omega
                        have n8 : (ya : Int) < 6 := by omega
                        clear hf8 z3 z4 hlen
                        go_wp2_with fail
                        refine region_lin (fun wx => Ext wr wx) 100000 [(0, 0), (1, 0), (2, 0), (3, 0), (4, 0), (5, 0), (6, 0), (7, 0), (8, 0), (9, 0), (10, 0), (11, 0), (12, 0), (13, 0), (14, 0), (15, 0), (16, 0), (17, 0), (18, 0), (19, 0), (20, 0), (21, 0), (22, 0), (23, 0), (24, 0), (25, 0), (26, 0), (27, 0), (28, 0), (29, 0), (30, 0), (31, 0)] ?_ (by kernel_rfl) (by kernel_rfl) ?_ (fun _ _ _ _ _ h => h) ((Ext.refl _).drew) ?_
                        rotate_left
                        (simp only [planOps, List.mapM_cons, List.mapM_nil, List.getElem?_toArray, List.getElem?_cons_zero, List.getElem?_cons_succ, Option.map_some, Option.bind_eq_bind, Option.bind_some, Option.pure_def]; rfl)
                        intro wd hwd hxd
                        clear hxd
                        repeat (first | (refine lin_take ?_ (by rfl) (fun wx hx => ?_) ?_; rotate_left; go_simp; (with_reducible rfl); try simp only [Act.put, List.setIfInBounds_toArray, List.set_cons_zero, List.set_cons_succ]) | (refine lin_skip (by rfl) ?_; try simp only [Act.put, List.setIfInBounds_toArray, List.set_cons_zero, List.set_cons_succ]) | (refine lin_take3 ?_ (by rfl) (fun wx hx => ?_) ?_; rotate_left; go_simp; (with_reducible rfl); try simp only [Act.put, List.setIfInBounds_toArray, List.set_cons_zero, List.set_cons_succ]))
                        refine lin_nil ?_
                        have Hx10 : Hid (Ext w6 wd) := Hx8.out.trans hwd
                        clear hwd cy p0 p1 p2 p3 r0 r1 r2 r3 n1 n2 n3 n4 n5 n6 n6b
                        go_wp2_with fail
                        go_roundw
                        case rel => exact ⟨q + 1, by omega, by go_num, Hx10.out⟩
                        case measure => simp [intOf]; omega
                      · have HX9 : Hid (Ext w6 wr) := Hx8.out
                        go_wp2_with fail
                        obtain ⟨wy, rfl⟩ : ∃ wy : World, wy = wr := ⟨_, rfl⟩
                        go_loopw [17] (fun jv wr => ∃ j : Nat, j ≤ H3.length ∧ jv = .int .i64 j ∧ Ext w6 wr) (fun jv _ => H3.length - (intOf jv).toNat)
                        case atStart => exact ⟨0, Nat.zero_le _, rfl, HX9.out⟩
                        case round =>
                          obtain ⟨q2, hq2, rfl, hx⟩ := hrel
                          have Hx9 := Lib.hid hx
                          clear hx
                          by_cases hql2 : q2 < H3.length
                          · obtain ⟨y, hye⟩ : ∃ y, H3[q2] = y := ⟨_, rfl⟩
                            have hyt : H3[q2]? = some y := by rw [List.getElem?_eq_getElem hql2, hye]
                            have hyw := (HS4.out.1 y (hye ▸ List.getElem_mem hql2)).2
                            have hb : (y.who == (wn : Int)) = false := by simpa using hyw
                            obtain ⟨bh, oh, rfl⟩ := HH7.out.form (by omega)
                            obtain ⟨p0, -, -, -⟩ := (HH7.out.ext Hx9.out).at hyt
                            have q0 := p0 _ (Ext.refl _)
                            clear p0 hyt hye hyw
                            go_wp2_with fail
                            go_roundw
                            case rel => exact ⟨q2 + 1, by omega, by go_num, Hx9.out⟩
                            case measure => simp [intOf]; omega
                          · have HR2 : Hid (LR w t g H3 W3 wr) := by
                              refine ⟨G3, _, HT7.out.ext Hx9.out, HG4.out, HF7.out.ext Hx9.out, ?_, HGs.out⟩
                              have h0 : ∀ x : Int, (okWho f x ∧ x ≠ (wn : Int)) → okWho (fun j => if j = wn then true else f j) x := fun x ⟨⟨a1, a2, a3⟩, a4⟩ => ⟨a1, a2, by
                                show (if x.toNat = wn then true else f x.toNat) = false
                                rw [if_neg (by omega)]; exact a3⟩
                              exact ⟨fun l hl => h0 _ (HS4.out.1 l hl), fun l hl => h0 _ (HS4.out.2 l hl)⟩
                            go_wp2_with fail
                            go_roundw
                            case rel => exact ⟨m + wn + 1, H3, W3, by omega, by go_num, HR2.out⟩
                            case measure => simp [intOf]; omega
          · have HT9 : Hid (TabB w wr t H2 W2) := HT2.out.toB
            have HS9 : Hid (Whos (fun x => ((0 : Nat) : Int) ≤ x ∧ x < 6) H2 W2) := ⟨fun l hl => ⟨(HS2.out.1 l hl).1, (HS2.out.1 l hl).2.1⟩, fun l hl => ⟨(HS2.out.2 l hl).1, (HS2.out.2 l hl).2.1⟩⟩
            by_cases hmo : m ≤ 9223372036854775801
            · by_cases him : i < m + 6
              · have h60 : ¬ i < 60 := fun h => hgo ⟨h, him, hmo⟩
                have him' : (i : Int) < (m : Int) + 6 := by omega
                have h60' : ¬ (i : Int) < 60 := by omega
                clear hgo
                go_wp2_with fail
                go_loopw [18] (fun jv wr => ∃ (j : Nat) (H W : List Lk), j ≤ 6 ∧ jv = .int .i64 j ∧ TabB w wr t H W ∧ Whos (fun x => (j : Int) ≤ x ∧ x < 6) H W) (fun jv _ => 6 - (intOf jv).toNat)
                case atStart => exact ⟨0, H2, W2, by omega, rfl, HT9.out, HS9.out⟩
                case round =>
                  obtain ⟨j, H8, W8, hj, rfl, hT, hS⟩ := hrel
                  have HT := Lib.hid hT
                  have HS := Lib.hid hS
                  clear hT hS
                  by_cases hj6 : j < 6
                  · go_wp2_with fail
                    refine (leave_b w _ t H8 W8 j HT.out).mono ?_
                    rintro e w9 ⟨A9, c9, rfl, hT9, -⟩
                    have HTn := Lib.hid hT9
                    have HSn := Lib.hid (HS.out.left j)
                    clear hT9
                    go_wp2_with fail
                    go_roundw
                    case rel => exact ⟨j + 1, _, _, by omega, by go_num, HTn.out, ⟨fun l hl => by have := HSn.out.1 l hl; omega, fun l hl => by have := HSn.out.2 l hl; omega⟩⟩
                    case measure => simp [intOf]; omega
                  · obtain rfl : H8 = [] := List.eq_nil_iff_forall_not_mem.2 (fun l hl => by have := HS.out.1 l hl; omega)
                    obtain rfl : W8 = [] := List.eq_nil_iff_forall_not_mem.2 (fun l hl => by have := HS.out.2 l hl; omega)
                    go_wp2_with (first
                      | (go_at_call 11; refine (held_b w _ t [] [] HT.out).mono ?_; rintro e w6 ⟨A6, c6, rfl, hx6, hT6, -⟩; have HT6 := Lib.hid hT6; clear hT6)
                      | (go_at_call 12; refine (waits_b w _ t [] [] HT6.out).mono ?_; rintro e w7 ⟨A7, c7, rfl, hx7, hT7, -⟩; have HT7 := Lib.hid hT7; clear hT7)
                      | (go_at_call 15; refine (wakes_any _).mono ?_; rintro e w8 ⟨rfl, hx8⟩; have HX8 := Lib.hid (HT7.out.1.trans hx8); clear hx8))
                    go_ret
                    exact ⟨rfl, HX8.out⟩
              · have him' : ¬ (i : Int) < (m : Int) + 6 := by omega
                clear hgo
                go_wp2_with fail
                go_loopw [18] (fun jv wr => ∃ (j : Nat) (H W : List Lk), j ≤ 6 ∧ jv = .int .i64 j ∧ TabB w wr t H W ∧ Whos (fun x => (j : Int) ≤ x ∧ x < 6) H W) (fun jv _ => 6 - (intOf jv).toNat)
                case atStart => exact ⟨0, H2, W2, by omega, rfl, HT9.out, HS9.out⟩
                case round =>
                  obtain ⟨j, H8, W8, hj, rfl, hT, hS⟩ := hrel
                  have HT := Lib.hid hT
                  have HS := Lib.hid hS
                  clear hT hS
                  by_cases hj6 : j < 6
                  · go_wp2_with fail
                    refine (leave_b w _ t H8 W8 j HT.out).mono ?_
                    rintro e w9 ⟨A9, c9, rfl, hT9, -⟩
                    have HTn := Lib.hid hT9
                    have HSn := Lib.hid (HS.out.left j)
                    clear hT9
                    go_wp2_with fail
                    go_roundw
                    case rel => exact ⟨j + 1, _, _, by omega, by go_num, HTn.out, ⟨fun l hl => by have := HSn.out.1 l hl; omega, fun l hl => by have := HSn.out.2 l hl; omega⟩⟩
                    case measure => simp [intOf]; omega
                  · obtain rfl : H8 = [] := List.eq_nil_iff_forall_not_mem.2 (fun l hl => by have := HS.out.1 l hl; omega)
                    obtain rfl : W8 = [] := List.eq_nil_iff_forall_not_mem.2 (fun l hl => by have := HS.out.2 l hl; omega)
                    go_wp2_with (first
                      | (go_at_call 11; refine (held_b w _ t [] [] HT.out).mono ?_; rintro e w6 ⟨A6, c6, rfl, hx6, hT6, -⟩; have HT6 := Lib.hid hT6; clear hT6)
                      | (go_at_call 12; refine (waits_b w _ t [] [] HT6.out).mono ?_; rintro e w7 ⟨A7, c7, rfl, hx7, hT7, -⟩; have HT7 := Lib.hid hT7; clear hT7)
                      | (go_at_call 15; refine (wakes_any _).mono ?_; rintro e w8 ⟨rfl, hx8⟩; have HX8 := Lib.hid (HT7.out.1.trans hx8); clear hx8))
                    go_ret
                    exact ⟨rfl, HX8.out⟩
            · have n1 : IntKind.i64.wrap ((m : Int) + 6) = (m : Int) + 6 - 18446744073709551616 := by rw [IntKind.wrap_i64]; omega
              have n2 : ¬ (i : Int) < (m : Int) + 6 - 18446744073709551616 := by omega
              clear hgo
              go_wp2_with fail
              go_loopw [18] (fun jv wr => ∃ (j : Nat) (H W : List Lk), j ≤ 6 ∧ jv = .int .i64 j ∧ TabB w wr t H W ∧ Whos (fun x => (j : Int) ≤ x ∧ x < 6) H W) (fun jv _ => 6 - (intOf jv).toNat)
              case atStart => exact ⟨0, H2, W2, by omega, rfl, HT9.out, HS9.out⟩
              case round =>
                obtain ⟨j, H8, W8, hj, rfl, hT, hS⟩ := hrel
                have HT := Lib.hid hT
                have HS := Lib.hid hS
                clear hT hS
                by_cases hj6 : j < 6
                · go_wp2_with fail
                  refine (leave_b w _ t H8 W8 j HT.out).mono ?_
                  rintro e w9 ⟨A9, c9, rfl, hT9, -⟩
                  have HTn := Lib.hid hT9
                  have HSn := Lib.hid (HS.out.left j)
                  clear hT9
                  go_wp2_with fail
                  go_roundw
                  case rel => exact ⟨j + 1, _, _, by omega, by go_num, HTn.out, ⟨fun l hl => by have := HSn.out.1 l hl; omega, fun l hl => by have := HSn.out.2 l hl; omega⟩⟩
                  case measure => simp [intOf]; omega
                · obtain rfl : H8 = [] := List.eq_nil_iff_forall_not_mem.2 (fun l hl => by have := HS.out.1 l hl; omega)
                  obtain rfl : W8 = [] := List.eq_nil_iff_forall_not_mem.2 (fun l hl => by have := HS.out.2 l hl; omega)
                  go_wp2_with (first
                    | (go_at_call 11; refine (held_b w _ t [] [] HT.out).mono ?_; rintro e w6 ⟨A6, c6, rfl, hx6, hT6, -⟩; have HT6 := Lib.hid hT6; clear hT6)
                    | (go_at_call 12; refine (waits_b w _ t [] [] HT6.out).mono ?_; rintro e w7 ⟨A7, c7, rfl, hx7, hT7, -⟩; have HT7 := Lib.hid hT7; clear hT7)
                    | (go_at_call 15; refine (wakes_any _).mono ?_; rintro e w8 ⟨rfl, hx8⟩; have HX8 := Lib.hid (HT7.out.1.trans hx8); clear hx8))
                  go_ret
                  exact ⟨rfl, HX8.out⟩
end Go.Proofs.Ytpjgfkdnjkfnfaa
