/- The walk of the statement LockOwn. -/
import Derived.Test.YtpjgfkdnjkfnfaaQ
namespace Go.Proofs.Ytpjgfkdnjkfnfaa
open Go.RowKit Go.Maps

theorem LkSl.lt_cell {w : World} {A n ls} (h : LkSl w A n ls) {k : Nat} (hk : k < n) : ∃ b off x, A = some ⟨b, off, none⟩ ∧ b < w.heap.size ∧ ls[k]? = some x ∧ LkAt w b (off + k * 4) x := by
  obtain ⟨b, off, rfl, hb, hc⟩ := h.2 (by omega)
  have hkl : k < ls.length := by have := h.1; omega
  exact ⟨b, off, ls[k], rfl, hb, List.getElem?_eq_getElem hkl, hc k _ (List.getElem?_eq_getElem hkl)⟩

set_option maxRecDepth 20000 in
set_option maxHeartbeats 2000000 in
theorem lockOwn_walk (who : Int) (A : Option Addr) (n c : Nat) (ls : List Lk) (wa pa na : Int) (sa : Bool) (w : World) (hs : LkSl w A n ls) (_hn : n ≤ 9223372036854775807) (_hw0 : -9223372036854775808 ≤ who) (_hw1 : who ≤ 9223372036854775807) :
    Calls Try.prog 4 #[.int .i64 who, .slice A n c, .agg #[.int .i64 wa, .int .i64 pa, .int .i64 na, .bool sa]] w fun e w' => e = .returned (.bool true) ∧ Ext w w' := by
  have Hs := Lib.hid hs
  obtain ⟨B, hB⟩ : ∃ B : Obj, B = .cells #[.int .i64 wa, .int .i64 pa, .int .i64 na, .bool sa] 29 := ⟨_, rfl⟩
  have e0 : Ext w (w.alloc B) := (Ext.refl _).alloc _
  have HBq : Hid (∀ wx, Ext (w.alloc B) wx → wx.cell? ⟨w.heap.size, 0, none⟩ = some (.int .i64 wa) ∧ wx.cell? ⟨w.heap.size, 1, none⟩ = some (.int .i64 pa) ∧ wx.cell? ⟨w.heap.size, 2, none⟩ = some (.int .i64 na) ∧ wx.cell? ⟨w.heap.size, 3, none⟩ = some (.bool sa)) := by
    intro wx h
    subst hB
    exact ⟨h.cell_new 0, h.cell_new 1, h.cell_new 2, h.cell_new 3⟩
  have HB := Lib.hid hB
  clear hs hB
  go_enter Try.func4, Try.ntmps4
  go_wp2_with fail
  rw [← HB.out]
  refine (new_b (w.alloc B) _ (Ext.refl _)).mono ?_
  rintro e w1 ⟨t, rfl, hT1⟩
  have HT1 := Lib.hid hT1
  clear hT1
  go_wp2_with fail
  go_loopw [8, 9] (fun nn i wr => ∃ (k : Nat) (H : List Lk) (W0 : Int), k ≤ n ∧ k ≤ 100 ∧ i = .int .i64 k ∧ nn = .int .i64 H.length ∧ H.length ≤ k ∧ W0 = (wrap64 (who.tmod 256 + 256)).tmod 256 ∧ (∀ l ∈ H, l.who = W0) ∧ TabB (w.alloc B) wr t H []) (fun _ i _ => n - (intOf i).toNat)
  case atStart => exact ⟨0, [], _, Nat.zero_le _, Nat.zero_le _, rfl, rfl, Nat.le_refl _, rfl, fun l hl => by simp at hl, HT1.out⟩
  case round =>
    obtain ⟨k, H, W0, hk, hk2, rfl, rfl, hHk, hW0, hHw, hT⟩ := hrel
    have HT := Lib.hid hT
    have HHw := Lib.hid hHw
    clear hT hHw
    by_cases hlt : k < n ∧ k < 100
    · obtain ⟨hlt, hlt2⟩ := hlt
      obtain ⟨b, off, x, rfl, hb, hx, e1, e2, e3, e4⟩ := (Hs.out.ext (e0.trans HT.out.1)).lt_cell hlt
      clear hx
      rcases wait_alone (l := ⟨W0, x.pos, x.num, x.sh⟩) HHw.out (by omega) with ⟨-, hf, hh⟩ | ⟨-, hf, hh⟩
      · have Hf := Lib.hid hf
        have Hh := Lib.hid hh
        have HW0 := Lib.hid hW0
        clear hf hh hW0
        go_wp2_with fail
        rw [← HW0.out]
        refine (wait_b (w.alloc B) _ t H [] W0 x.pos x.num x.sh (HT.out.ext ((Ext.refl _).alloc _))).mono ?_
        rintro e w2 ⟨rfl, hT2⟩
        rw [Hf.out]
        rw [Hh.out] at hT2
        have HT2 := Lib.hid hT2
        clear hT2
        go_wp2_with fail
        go_roundw
        case rel => exact ⟨k + 1, H, W0, by omega, by omega, by go_num, rfl, by omega, HW0.out, HHw.out, HT2.out⟩
        case measure => simp [intOf]; omega
      · have Hf := Lib.hid hf
        have Hh := Lib.hid hh
        have HW0 := Lib.hid hW0
        clear hf hh hW0
        go_wp2_with fail
        rw [← HW0.out]
        refine (wait_b (w.alloc B) _ t H [] W0 x.pos x.num x.sh (HT.out.ext ((Ext.refl _).alloc _))).mono ?_
        rintro e w2 ⟨rfl, hT2⟩
        rw [Hf.out]
        rw [Hh.out] at hT2
        have HT2 := Lib.hid hT2
        clear hT2
        go_wp2_with fail
        go_roundw
        case rel => exact ⟨k + 1, H ++ [⟨W0, x.pos, x.num, x.sh⟩], W0, by omega, by omega, by go_num, by rw [List.length_append]; go_num, by simp; omega, HW0.out, fun l hl => by rcases List.mem_append.1 hl with hl | hl; exact HHw.out l hl; rw [List.mem_singleton.1 hl], HT2.out⟩
        case measure => simp [intOf]; omega
    · have hend : (decide ((k : Int) < (n : Int)) && decide ((k : Int) < 100)) = false := by simp; omega
      by_cases hkn : k < n
      all_goals
        go_wp2_with fail
        refine (held_g (w.alloc B) _ t _ H [] HT.out.toG).mono ?_
        rintro e w2 ⟨A2, c2, rfl, hx2, hT2, hS2⟩
        have HT2 := Lib.hid hT2
        have HS2 := Lib.hid hS2
        have hb2 := HBq.out _ (HT.out.1.trans hx2)
        obtain ⟨p0, p1, p2, p3⟩ := hb2
        clear hT2 hS2
        have HP : Hid (∀ wx, Mod (fun k => (w.alloc B).heap.size ≤ k) w2 wx → wx.cell? ⟨w.heap.size, 0, none⟩ = some (.int .i64 wa) ∧ wx.cell? ⟨w.heap.size, 1, none⟩ = some (.int .i64 pa)) := fun wx h => by
          have hlt : w.heap.size < w2.heap.size := by have := (HT.out.1.trans hx2).size; simp at this; omega
          exact ⟨(h.cell hlt (by simp)).trans p0, (h.cell hlt (by simp)).trans p1⟩
        go_wp2_with fail
        refine (try_g (w.alloc B) _ t _ H [] wa pa na sa HT2.out).mono ?_
        rintro e w3 ⟨rfl, hM3, hT3⟩
        obtain ⟨E, hE⟩ : ∃ E : Int, tryF ⟨wa, pa, na, sa⟩ H [] = E := ⟨_, rfl⟩
        obtain ⟨H3, hH3⟩ : ∃ H3, tryH ⟨wa, pa, na, sa⟩ H [] = H3 := ⟨_, rfl⟩
        rw [hE]
        rw [hH3] at hT3
        have HE : Hid (E ≠ 0 → H3 = H) := fun h => by rw [← hH3]; simp [tryH, hE, h]
        obtain ⟨r0, r1⟩ := HP.out w3 (hM3.mono (fun k _ hk => hk.1))
        have HM3 := Lib.hid hM3
        have HT3 := Lib.hid hT3
        have HF : Hid (freeF ⟨wa, pa, -1, false⟩ H3 [] = (2, H3, [], [])) := by show _ = _; simp [freeF, mayB]
        clear hM3 hT3 hE hH3 p0 p1 p2 p3
        go_wp2_with fail
        refine (free_g (w.alloc B) _ t _ H3 [] wa pa (-1) false HT3.out).mono ?_
        rintro e w4 ⟨A4, c4, G4, rfl, hM4, hT4, hG4, -⟩
        rw [HF.out] at hT4 ⊢
        have HM4 := Lib.hid hM4
        have HT4 := Lib.hid hT4
        clear hM4 hT4 hG4 r0 r1
        dsimp only
        go_wp2_with fail
        refine (held_g (w.alloc B) _ t _ H3 [] HT4.out).mono ?_
        rintro e w5 ⟨A5, c5, rfl, hx5, hT5, hS5⟩
        have HT5 := Lib.hid hT5
        have HS5 := Lib.hid hS5
        have HS : Hid (Own w5 29 4 (.slice A2 H.length c2) H.length (flat H)) := by
          have h3 := HS2.out.mod HM3.out
          refine (h3.mod HM4.out ?_).ext hx5
          rintro j hj ⟨h | h, _⟩
          · exact HS2.out.2 j hj h
          · have := HS2.out.1.lt j hj; omega
        clear hT5 hS5
        have hHn : H.length ≤ 100 := by omega
        by_cases hE0 : E = 0
        · have hE1 : (E != 0) = false := by simp [hE0]
          clear hE0
          go_wp2_with (first
            | (go_at_call 12; refine (waits_b (w.alloc B) _ t H3 [] HT5.out.toB).mono ?_; rintro e w6 ⟨A6, c6, rfl, hx6, hT6, -⟩; have e6 : Ext w w6 := e0.trans hT6.1; clear hT6)
            | (go_at_call 15; refine (wakes_any _).mono ?_; rintro e w7 ⟨rfl, hx7⟩))
          go_ret
          exact ⟨rfl, e6.trans hx7⟩
        · have hE1 : (E != 0) = true := by simpa using hE0
          have hH3 : H3 = H := HE.out hE0
          subst hH3
          clear hE0
          go_wp2_with (first
            | (go_at_call 12; refine (waits_b (w.alloc B) _ t H3 [] HT5.out.toB).mono ?_; rintro e w6 ⟨A6, c6, rfl, hx6, hT6, -⟩; have e6 : Ext w w6 := e0.trans hT6.1; clear hT6))
          have HA : Hid (LkSl w6 A2 H3.length H3) := LkSl.of_own (HS.out.ext hx6)
          have HB5 : Hid (LkSl w6 A5 H3.length H3) := LkSl.of_own (HS5.out.1.ext hx6)
          go_loopw [18] (fun i wr => ∃ k2 : Nat, k2 ≤ H3.length ∧ i = .int .i64 k2 ∧ Ext w6 wr) (fun i _ => H3.length - (intOf i).toNat)
          case atStart => exact ⟨0, Nat.zero_le _, rfl, Ext.refl _⟩
          case round =>
            obtain ⟨k2, hk2, rfl, hx⟩ := hrel
            by_cases hl2 : k2 < H3.length
            · obtain ⟨b1, off1, y1, rfl, hb1, hy1, f1, f2, f3, f4⟩ := (HA.out.ext hx).lt_cell hl2
              obtain ⟨b2, off2, y2, rfl, hb2, hy2, g1, g2, g3, g4⟩ := (HB5.out.ext hx).lt_cell hl2
              obtain rfl : y1 = y2 := by rw [hy1] at hy2; exact Option.some.inj hy2
              have z1 : ∀ wx, Ext wr wx → wx.cell? ⟨b1, off1 + k2 * 4, none⟩ = some (.int .i64 y1.who) := fun wx h => h.cell_some f1
              have z2 : ∀ wx, Ext wr wx → wx.cell? ⟨b1, off1 + k2 * 4 + 1, none⟩ = some (.int .i64 y1.pos) := fun wx h => h.cell_some f2
              have z3 : ∀ wx, Ext wr wx → wx.cell? ⟨b1, off1 + k2 * 4 + 2, none⟩ = some (.int .i64 y1.num) := fun wx h => h.cell_some f3
              have z4 : ∀ wx, Ext wr wx → wx.cell? ⟨b1, off1 + k2 * 4 + 3, none⟩ = some (.bool y1.sh) := fun wx h => h.cell_some f4
              have u1 : ∀ wx, Ext wr wx → wx.cell? ⟨b2, off2 + k2 * 4, none⟩ = some (.int .i64 y1.who) := fun wx h => h.cell_some g1
              have u2 : ∀ wx, Ext wr wx → wx.cell? ⟨b2, off2 + k2 * 4 + 1, none⟩ = some (.int .i64 y1.pos) := fun wx h => h.cell_some g2
              have u3 : ∀ wx, Ext wr wx → wx.cell? ⟨b2, off2 + k2 * 4 + 2, none⟩ = some (.int .i64 y1.num) := fun wx h => h.cell_some g3
              have u4 : ∀ wx, Ext wr wx → wx.cell? ⟨b2, off2 + k2 * 4 + 3, none⟩ = some (.bool y1.sh) := fun wx h => h.cell_some g4
              have i1 : (k2 : Int) < (H3.length : Int) := by omega
              clear hy1 hy2 f1 f2 f3 f4 g1 g2 g3 g4
              go_wp2_with fail
              refine region_lin (fun wx => Ext wr wx) 100000 [(0, 3), (1, 3), (2, 3), (3, 0), (4, 3), (5, 3), (6, 3), (7, 0), (8, 3)] ?_ (by kernel_rfl) (by kernel_rfl) ?_ (fun _ _ _ _ _ h => h) ((Ext.refl _).drew) ?_
              rotate_left
              (simp only [planOps, List.mapM_cons, List.mapM_nil, List.getElem?_toArray, List.getElem?_cons_zero, List.getElem?_cons_succ, Option.map_some, Option.bind_eq_bind, Option.bind_some, Option.pure_def]; rfl)
              intro wd hwd hxd
              repeat (first | (refine lin_take ?_ (by rfl) (fun wx hx => ?_) ?_; rotate_left; go_simp; (with_reducible rfl); try simp only [Act.put, List.setIfInBounds_toArray, List.set_cons_zero, List.set_cons_succ]) | (refine lin_skip (by rfl) ?_; try simp only [Act.put, List.setIfInBounds_toArray, List.set_cons_zero, List.set_cons_succ]) | (refine lin_take3 ?_ (by rfl) (fun wx hx => ?_) ?_; rotate_left; go_simp; (with_reducible rfl); try simp only [Act.put, List.setIfInBounds_toArray, List.set_cons_zero, List.set_cons_succ]))
              refine lin_nil ?_
              go_wp2_with fail
              go_roundw
              case rel => exact ⟨k2 + 1, by omega, by go_num, hx.trans hxd⟩
              case measure => simp [intOf]; omega
            · go_wp2_with (go_at_call 15; refine (wakes_any _).mono ?_; rintro e w7 ⟨rfl, hx7⟩)
              go_ret
              exact ⟨rfl, (e6.trans hx).trans hx7⟩
end Go.Proofs.Ytpjgfkdnjkfnfaa
