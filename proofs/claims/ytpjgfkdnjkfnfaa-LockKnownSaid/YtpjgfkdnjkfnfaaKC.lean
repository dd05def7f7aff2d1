/- The closed examples of the locks, walked: the code of the statement LockKnown. -/
import Derived.Test.YtpjgfkdnjkfnfaaKB
namespace Go.Proofs.Ytpjgfkdnjkfnfaa
open Go.RowKit Go.Maps

theorem TabB.size {w0 wr t H W} (h : TabB w0 wr t H W) : w0.heap.size ≤ wr.heap.size := h.1.size
theorem one_cells {w : World} {A : Option Addr} {c : Nat} {l : Lk} {n : Nat} (hn : n = 1) (h : Own w 29 4 (.slice A n c) 1 (flat [l])) : ∃ b off, A = some ⟨b, off, none⟩ ∧ b < w.heap.size ∧ LkAt w b off l := by
  subst hn
  obtain ⟨b, off, h1, h2, h3⟩ := (LkSl.of_own h).2 (by simp)
  exact ⟨b, off, h1, h2, by simpa using h3 0 l rfl⟩

/-- The two boxes. -/
def Boxes (n : Nat) (w : World) : Prop := n + 1 < w.heap.size ∧ LkAt w n 0 d5 ∧ LkAt w (n + 1) 0 d7
theorem LkAt.mod {S : Nat → Prop} {w w' : World} {b off : Nat} {l : Lk} (h : LkAt w b off l) (hm : Mod S w w') (hb : b < w.heap.size) (hs : ¬ S b) : LkAt w' b off l :=
  ⟨(hm.cell hb hs).trans h.1, (hm.cell hb hs).trans h.2.1, (hm.cell hb hs).trans h.2.2.1, (hm.cell hb hs).trans h.2.2.2⟩
theorem Boxes.mod {S : Nat → Prop} {n : Nat} {w w' : World} (h : Boxes n w) (hm : Mod S w w') (h0 : ¬ S n) (h1 : ¬ S (n + 1)) : Boxes n w' :=
  ⟨Nat.lt_of_lt_of_le h.1 hm.size, h.2.1.mod hm (by have := h.1; omega) h0, h.2.2.mod hm h.1 h1⟩
theorem Boxes.made (w : World) : Boxes w.heap.size ((w.alloc (.cells #[.int .i64 0, .int .i64 5, .int .i64 1, .bool false] 29)).alloc (.cells #[.int .i64 0, .int .i64 7, .int .i64 1, .bool false] 29)) := by
  have h0 : ∀ (o : Obj) (i : Nat), ((w.alloc (.cells #[.int .i64 0, .int .i64 5, .int .i64 1, .bool false] 29)).alloc o).cell? ⟨w.heap.size, i, none⟩ = (#[.int .i64 0, .int .i64 5, .int .i64 1, .bool false] : Array Value)[i]? := fun o i => Ext.cell_new ((Ext.refl _).alloc o) i
  have h1 : ∀ (v : World) (i : Nat), (v.alloc (.cells #[.int .i64 0, .int .i64 7, .int .i64 1, .bool false] 29)).cell? ⟨v.heap.size, i, none⟩ = (#[.int .i64 0, .int .i64 7, .int .i64 1, .bool false] : Array Value)[i]? := fun v i => Ext.cell_new (Ext.refl _) i
  have h2 := h1 (w.alloc (.cells #[.int .i64 0, .int .i64 5, .int .i64 1, .bool false] 29))
  have e : (w.alloc (.cells #[.int .i64 0, .int .i64 5, .int .i64 1, .bool false] 29)).heap.size = w.heap.size + 1 := by simp
  rw [e] at h2
  refine ⟨by simp, ⟨h0 _ 0, h0 _ 1, h0 _ 2, h0 _ 3⟩, ⟨h2 0, h2 1, h2 2, h2 3⟩⟩
def BoxFacts (n : Nat) (wx : World) : Prop := (wx.cell? ⟨n, 0, none⟩ = some (.int .i64 0) ∧ wx.cell? ⟨n, 1, none⟩ = some (.int .i64 5) ∧ wx.cell? ⟨n, 2, none⟩ = some (.int .i64 1) ∧ wx.cell? ⟨n, 3, none⟩ = some (.bool false)) ∧
  (wx.cell? ⟨n + 1, 0, none⟩ = some (.int .i64 0) ∧ wx.cell? ⟨n + 1, 1, none⟩ = some (.int .i64 7) ∧ wx.cell? ⟨n + 1, 2, none⟩ = some (.int .i64 1) ∧ wx.cell? ⟨n + 1, 3, none⟩ = some (.bool false))
theorem Boxes.facts {n : Nat} {w : World} (h : Hid (Boxes n w)) : BoxFacts n w := ⟨h.out.2.1, h.out.2.2⟩
theorem Boxes.ext {n : Nat} {w w' : World} (h : Hid (Boxes n w)) (he : Ext w w') : Hid (Boxes n w') := h.out.mod he (fun f => f) (fun f => f)

theorem held_v {w0 w : World} {t : Nat} {H W : List Lk} (h : Hid (TabB w0 w t H W)) : Calls Try.prog 11 #[.pointer (some ⟨t, 0, none⟩)] w fun e w' => ∃ A c, e = .returned (.slice A H.length c) ∧ Ext w w' ∧ Hid (Own w' 29 4 (.slice A H.length c) H.length (flat H)) ∧ Hid (∀ k, (Value.slice A H.length c).ownBlock = some k → w.heap.size ≤ k) :=
  (held_any t _ H W w h.out.2).mono fun _ _ ⟨v, h1, h2, h3, h4⟩ => by
    obtain ⟨A, c, rfl, -, -⟩ := h2.form
    exact ⟨A, c, h1, h4, h2, h3⟩

set_option maxRecDepth 20000 in
set_option maxHeartbeats 4000000 in
theorem lockKnown_walk (w : World) : Calls Try.prog 8 #[] w fun e w' => e = .returned (.bool true) ∧ Ext w w' := by
  go_enter Try.func8, Try.ntmps8
  go_wp2_with fail
  refine (new_b w _ (Ext.refl _)).mono ?_
  rintro e w1 ⟨t, rfl, hT1⟩
  replace hT1 := Lib.hid hT1
  go_wp2_with fail
  refine (try_v va1 hT1).mono ?_
  rintro e w2 ⟨rfl, hT2⟩
  go_wp2_with fail
  refine (try_v va2 hT2).mono ?_
  rintro e w3 ⟨rfl, hT3⟩
  go_wp2_with fail
  refine (try_v va3 hT3).mono ?_
  rintro e w4 ⟨rfl, hT4⟩
  go_wp2_with fail
  refine (try_v va4 hT4).mono ?_
  rintro e w5 ⟨rfl, hT5⟩
  clear hT1 hT2 hT3 hT4
  go_wp2_with fail
  refine (wait_v va5 hT5).mono ?_
  rintro e w6 ⟨rfl, hT6⟩
  go_wp2_with fail
  refine (wait_v va6 hT6).mono ?_
  rintro e w7 ⟨rfl, hT7⟩
  go_wp2_with fail
  refine (try_v va7 hT7).mono ?_
  rintro e w8 ⟨rfl, hT8⟩
  go_wp2_with fail
  refine (wait_v va8 hT8).mono ?_
  rintro e w9 ⟨rfl, hT9⟩
  clear hT5 hT6 hT7 hT8
  have hG9 : Hid (TabG w w9 t _ [a1, a3, a4] [a5, a7]) := hT9.out.toG
  clear hT9
  go_wp2_with fail
  refine (free_v va9 hG9).mono ?_
  rintro e w10 ⟨A10, c10, G10, rfl, -, hG10, -⟩
  go_wp2_with fail
  refine (free_v va10 hG10).mono ?_
  rintro e w11 ⟨A11, c11, G11, rfl, -, hG11, hB11⟩
  go_wp2_with fail
  refine (free_v va11 hG11).mono ?_
  rintro e w12 ⟨A12, c12, G12, rfl, hM12, hG12, -⟩
  have hO12 := hB11.out.mod hM12.out
  obtain ⟨b, off, rfl, hb, p1, p2, p3, p4⟩ := one_cells (n := [a5].length) rfl hO12
  change w12.cell? _ = some (.int .i64 1) at p1
  change w12.cell? _ = some (.int .i64 0) at p2
  change w12.cell? _ = some (.int .i64 5) at p3
  change w12.cell? _ = some (.bool false) at p4
  have hT12 : Hid (TabB w w12 t [a3, a5] [a7]) := hG12.out.toB
  clear hO12 hM12 hB11 hG9 hG10 hG11 hG12
  simp only [List.length_nil]
  go_wp2_with fail
  clear p1 p2 p3 p4 hb
  refine (leave_v va12 hT12).mono ?_
  rintro e w13 ⟨A13, c13, rfl, hT13, hS13⟩
  obtain ⟨b', off', rfl, hb, hce⟩ := hS13.out.2 (by simp)
  obtain ⟨p1, p2, p3, p4⟩ := hce 0 a7 rfl
  simp only [Nat.zero_mul, Nat.add_zero] at p1 p2 p3 p4
  change w13.cell? _ = some (.int .i64 2) at p1
  change w13.cell? _ = some (.int .i64 2) at p2
  change w13.cell? _ = some (.int .i64 1) at p3
  change w13.cell? _ = some (.bool true) at p4
  clear hce hS13 hT12
  simp only [List.length_cons, List.length_nil, Nat.zero_add]
  go_wp2_with fail
  clear p1 p2 p3 p4 hb
  refine (try_v va13 hT13).mono ?_
  rintro e w14 ⟨rfl, hT14⟩
  go_wp2_with fail
  refine (try_v va14 hT14).mono ?_
  rintro e w15 ⟨rfl, hT15⟩
  go_wp2_with fail
  refine (try_v va15 hT15).mono ?_
  rintro e w16 ⟨rfl, hT16⟩
  go_wp2_with fail
  refine (try_v va16 hT16).mono ?_
  rintro e w17 ⟨rfl, hT17⟩
  have hX17 : Hid (Ext w w17) := hT17.out.1
  clear hT13 hT14 hT15 hT16 hT17
  go_wp2_with fail
  refine (new_b w17 _ (Ext.refl _)).mono ?_
  rintro e w18 ⟨tb, rfl, hB0⟩
  replace hB0 := Lib.hid hB0
  go_wp2_with fail
  go_loopw [28] (fun i wr => ∃ k : Nat, k ≤ 256 ∧ i = .int .i64 k ∧ TabB w17 wr tb (bks k) []) (fun i _ => 256 - (intOf i).toNat)
  case atStart => exact ⟨0, Nat.zero_le _, rfl, hB0.out⟩
  case round =>
    obtain ⟨k, hk, rfl, hst⟩ := hrel
    have hst := Lib.hid hst
    by_cases hlt : k < 256
    · have hv : Hid (tryF ⟨(k : Int) % 7, k, 1, false⟩ (bks k) [] = 0 ∧ tryH ⟨(k : Int) % 7, k, 1, false⟩ (bks k) [] = bks (k + 1)) := vb hlt
      go_wp2_with fail
      refine (try_v hv hst).mono ?_
      rintro e w19 ⟨rfl, hst2⟩
      go_wp2_with fail
      go_roundw
      case rel => exact ⟨k + 1, by omega, by go_num, hst2.out⟩
      case measure => simp [intOf]; omega
    · have hk' : k = 256 := by omega
      subst hk'
      clear hlt hk hB0
      go_wp2_with fail
      refine (wait_v vbw hst).mono ?_
      rintro e w19 ⟨rfl, hB⟩
      clear hst
      go_wp2_with fail
      refine (new_b w19 _ (Ext.refl _)).mono ?_
      rintro e w20 ⟨tc, rfl, hC0⟩
      replace hC0 := Lib.hid hC0
      go_wp2_with fail
      refine (try_v vc0 hC0).mono ?_
      rintro e w21 ⟨rfl, hC1⟩
      clear hC0
      go_wp2_with fail
      go_loopw [32] (fun i wr => ∃ k : Nat, k ≤ 255 ∧ i = .int .i64 ((k : Int) + 1) ∧ TabB w19 wr tc [c0] (cs k)) (fun i _ => 256 - (intOf i).toNat)
      case atStart => exact ⟨0, Nat.zero_le _, rfl, hC1.out⟩
      case round =>
        obtain ⟨k, hk, rfl, hst⟩ := hrel
        have hst := Lib.hid hst
        by_cases hlt : k < 255
        · go_wp2_with fail
          refine (wait_v (vc hlt) hst).mono ?_
          rintro e w22 ⟨rfl, hst2⟩
          go_wp2_with fail
          go_roundw
          case rel => exact ⟨k + 1, by omega, by go_num, hst2.out⟩
          case measure => simp [intOf]; omega
        · have hk' : k = 255 := by omega
          subst hk'
          clear hlt hk hC1
          obtain ⟨w22, rfl⟩ : ∃ w22 : World, w22 = wr := ⟨_, rfl⟩
          go_wp2_with fail
          obtain ⟨wz, hz⟩ : ∃ wz : World, wz = (w22.alloc (.cells #[.int .i64 0, .int .i64 5, .int .i64 1, .bool false] 29)).alloc (.cells #[.int .i64 0, .int .i64 7, .int .i64 1, .bool false] 29) := ⟨_, rfl⟩
          have hZ : Hid (Boxes w22.heap.size wz) := by rw [hz]; exact Boxes.made w22
          have hZe : Hid (Ext w22 wz) := by rw [hz]; exact ((Ext.refl _).alloc _).alloc _
          rw [← hz]
          clear hz
          refine (new_b wz _ (Ext.refl _)).mono ?_
          rintro e w23 ⟨td, rfl, hD0⟩
          replace hD0 := Lib.hid hD0
          obtain ⟨⟨p0, p1, p2, p3⟩, q0, q1, q2, q3⟩ := Boxes.facts (Boxes.ext hZ hD0.out.1)
          go_wp2_with fail
          clear p0 p1 p2 p3 q0 q1 q2 q3
          refine (try_v vd1 hD0).mono ?_
          rintro e w24 ⟨rfl, hD1⟩
          obtain ⟨⟨p0, p1, p2, p3⟩, q0, q1, q2, q3⟩ := Boxes.facts (Boxes.ext hZ hD1.out.1)
          go_wp2_with fail
          clear p0 p1 p2 p3 q0 q1 q2 q3
          refine (try_v vd2 hD1).mono ?_
          rintro e w25 ⟨rfl, hD2⟩
          obtain ⟨⟨p0, p1, p2, p3⟩, q0, q1, q2, q3⟩ := Boxes.facts (Boxes.ext hZ hD2.out.1)
          go_wp2_with fail
          clear p0 p1 p2 p3 q0 q1 q2 q3
          refine (try_v vd3 hD2).mono ?_
          rintro e w26 ⟨rfl, hD3⟩
          obtain ⟨⟨p0, p1, p2, p3⟩, q0, q1, q2, q3⟩ := Boxes.facts (Boxes.ext hZ hD3.out.1)
          go_wp2_with fail
          clear p0 p1 p2 p3 q0 q1 q2 q3
          refine (free_v vd4 hD3.out.toG).mono ?_
          rintro e w27 ⟨A27, c27, G27, rfl, -, hD4, -⟩
          replace hD4 : Hid (TabB wz w27 td [d7, d5] []) := hD4.out.toB
          clear hD0 hD1 hD2 hD3
          simp only [List.length_nil]
          go_wp2_with fail
          refine (held_v hD4).mono ?_
          rintro e w28 ⟨A28, c28, rfl, hx28, hO28, hn28⟩
          obtain ⟨b2, off2, rfl, hb2, hce⟩ := (LkSl.of_own hO28.out).2 (by simp)
          have hbn : w27.heap.size ≤ b2 := hn28.out _ rfl
          obtain ⟨r0, r1, r2, r3⟩ := hce 0 d7 rfl
          obtain ⟨s0, s1, s2, s3⟩ := hce 1 d5 rfl
          have hCG : Hid (TabG w19 w22 tc _ [c0] (cs 255)) := hst.out.toG
          have hZ28 : Hid (Ext w22 w28) := hZe.out.trans (hD4.out.1.trans hx28)
          have hC28 : Hid (TabG w19 w28 tc _ [c0] (cs 255)) := hCG.out.ext hZ28.out
          have hb27 : w22.heap.size ≤ w27.heap.size := (hZe.out.trans hD4.out.1).size
          have hB28 : Boxes w22.heap.size w28 := (Boxes.ext hZ (hD4.out.1.trans hx28)).out
          obtain ⟨G, hG⟩ : ∃ G : Nat → Prop, G = fun k => w19.heap.size ≤ k ∧ k < w22.heap.size := ⟨_, rfl⟩
          have nb : ¬ G b2 := by rw [hG]; rintro ⟨-, h⟩; omega
          have k1 : ∀ wx, Mod G w28 wx → LkAt wx b2 (off2 + 0 * 4) d7 ∧ LkAt wx b2 (off2 + 1 * 4) d5 := fun wx h => ⟨LkAt.mod ⟨r0, r1, r2, r3⟩ h hb2 nb, LkAt.mod ⟨s0, s1, s2, s3⟩ h hb2 nb⟩
          have k2 : ∀ wx, Mod G w28 wx → Boxes w22.heap.size wx := fun wx h => hB28.mod h (by rw [hG]; rintro ⟨-, h⟩; omega) (by rw [hG]; rintro ⟨-, h⟩; omega)
          have m0 : ∀ wx, Mod G w28 wx → wx.cell? ⟨b2, off2, none⟩ = some (.int .i64 0) := fun wx h => (k1 wx h).1.1
          have m1 : ∀ wx, Mod G w28 wx → wx.cell? ⟨b2, off2 + 1, none⟩ = some (.int .i64 7) := fun wx h => (k1 wx h).1.2.1
          have m2 : ∀ wx, Mod G w28 wx → wx.cell? ⟨b2, off2 + 2, none⟩ = some (.int .i64 1) := fun wx h => (k1 wx h).1.2.2.1
          have m3 : ∀ wx, Mod G w28 wx → wx.cell? ⟨b2, off2 + 3, none⟩ = some (.bool false) := fun wx h => (k1 wx h).1.2.2.2
          have n0 : ∀ wx, Mod G w28 wx → wx.cell? ⟨b2, off2 + 4, none⟩ = some (.int .i64 0) := fun wx h => (k1 wx h).2.1
          have n1 : ∀ wx, Mod G w28 wx → wx.cell? ⟨b2, off2 + 4 + 1, none⟩ = some (.int .i64 5) := fun wx h => (k1 wx h).2.2.1
          have n2 : ∀ wx, Mod G w28 wx → wx.cell? ⟨b2, off2 + 4 + 2, none⟩ = some (.int .i64 1) := fun wx h => (k1 wx h).2.2.2.1
          have n3 : ∀ wx, Mod G w28 wx → wx.cell? ⟨b2, off2 + 4 + 3, none⟩ = some (.bool false) := fun wx h => (k1 wx h).2.2.2.2
          have p0 : ∀ wx, Mod G w28 wx → wx.cell? ⟨w22.heap.size, 0, none⟩ = some (.int .i64 0) := fun wx h => (k2 wx h).2.1.1
          have p1 : ∀ wx, Mod G w28 wx → wx.cell? ⟨w22.heap.size, 1, none⟩ = some (.int .i64 5) := fun wx h => (k2 wx h).2.1.2.1
          have p2 : ∀ wx, Mod G w28 wx → wx.cell? ⟨w22.heap.size, 2, none⟩ = some (.int .i64 1) := fun wx h => (k2 wx h).2.1.2.2.1
          have p3 : ∀ wx, Mod G w28 wx → wx.cell? ⟨w22.heap.size, 3, none⟩ = some (.bool false) := fun wx h => (k2 wx h).2.1.2.2.2
          have q0 : ∀ wx, Mod G w28 wx → wx.cell? ⟨w22.heap.size + 1, 0, none⟩ = some (.int .i64 0) := fun wx h => (k2 wx h).2.2.1
          have q1 : ∀ wx, Mod G w28 wx → wx.cell? ⟨w22.heap.size + 1, 1, none⟩ = some (.int .i64 7) := fun wx h => (k2 wx h).2.2.2.1
          have q2 : ∀ wx, Mod G w28 wx → wx.cell? ⟨w22.heap.size + 1, 2, none⟩ = some (.int .i64 1) := fun wx h => (k2 wx h).2.2.2.2.1
          have q3 : ∀ wx, Mod G w28 wx → wx.cell? ⟨w22.heap.size + 1, 3, none⟩ = some (.bool false) := fun wx h => (k2 wx h).2.2.2.2.2
          rw [← hG] at hC28
          clear k1 k2 hce r0 r1 r2 r3 s0 s1 s2 s3 hb2 hbn hb27 hB28 nb hn28 hO28 hCG hG hx28
          simp only [List.length_cons, List.length_nil, Nat.zero_add]
          go_wp2_with fail
          refine region_lin (fun wx => Mod G w28 wx) 100000 [(0, 3), (1, 3), (2, 1), (3, 3), (4, 3), (5, 3), (6, 3), (7, 3), (8, 3), (9, 3), (10, 3), (11, 3), (12, 0), (13, 0), (14, 3), (15, 3), (16, 3), (17, 3), (18, 3), (19, 0), (20, 0), (21, 3), (22, 3)] ?_ (by kernel_rfl) (by kernel_rfl) ?_ (fun _ _ _ _ _ h => h) ((Mod.refl _ _).drew) ?_
          rotate_left
          (simp only [planOps, List.mapM_cons, List.mapM_nil, List.getElem?_toArray, List.getElem?_cons_zero, List.getElem?_cons_succ, Option.map_some, Option.bind_eq_bind, Option.bind_some, Option.pure_def]; rfl)
          intro wd hwd hxd
          have hC29 : Hid (TabG w19 wd tc G [c0] (cs 255)) := hC28.out.ext hxd
          clear hxd
          repeat (first | (refine lin_take ?_ (by rfl) (fun wx hx => ?_) ?_; rotate_left; go_simp; (with_reducible rfl); try simp only [Act.put, List.setIfInBounds_toArray, List.set_cons_zero, List.set_cons_succ]) | (refine lin_skip (by rfl) ?_; try simp only [Act.put, List.setIfInBounds_toArray, List.set_cons_zero, List.set_cons_succ]) | (refine lin_take3 ?_ (by rfl) (fun wx hx => ?_) ?_; rotate_left; go_simp; (with_reducible rfl); try simp only [Act.put, List.setIfInBounds_toArray, List.set_cons_zero, List.set_cons_succ]))
          refine lin_run (by rfl) (fun K hK => ?_)
          go_simp
          refine (try_g w19 wd tc G [c0] (cs 255) 0 9 1 false hC29.out).mono ?_
          rintro e w30 ⟨rfl, hM30, hC30⟩
          rw [vcf.out.1]
          have hX30 : Hid (Ext w19 w30) := hC30.1
          refine hK _ _ (hwd.trans hM30 (fun _ _ h => h)) ?_
          clear hC30
          try simp only [Act.put, List.setIfInBounds_toArray, List.set_cons_zero, List.set_cons_succ]
          repeat (first | (refine lin_take ?_ (by rfl) (fun wx hx => ?_) ?_; rotate_left; go_simp; (with_reducible rfl); try simp only [Act.put, List.setIfInBounds_toArray, List.set_cons_zero, List.set_cons_succ]) | (refine lin_skip (by rfl) ?_; try simp only [Act.put, List.setIfInBounds_toArray, List.set_cons_zero, List.set_cons_succ]) | (refine lin_take3 ?_ (by rfl) (fun wx hx => ?_) ?_; rotate_left; go_simp; (with_reducible rfl); try simp only [Act.put, List.setIfInBounds_toArray, List.set_cons_zero, List.set_cons_succ]))
          refine lin_nil ?_
          have hB30 : Hid (TabB w17 w30 tb (bks 256) []) := hB.out.ext hX30.out
          clear hwd hM30 p0 p1 p2 p3 q0 q1 q2 q3 m0 m1 m2 m3 n0 n1 n2 n3
          go_wp2_with fail
          refine (try_v vbt hB30).mono ?_
          rintro e w31 ⟨rfl, hB31⟩
          go_wp2_with fail
          refine (wakes_any _).mono ?_
          rintro e w32 ⟨rfl, hx32⟩
          go_wp2_with fail
          go_ret
          exact ⟨rfl, (hX17.out.trans hB31.out.1).trans hx32⟩
end Go.Proofs.Ytpjgfkdnjkfnfaa
