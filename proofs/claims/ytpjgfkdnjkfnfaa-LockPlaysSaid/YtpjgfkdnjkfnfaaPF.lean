/- The document's Same; the law's is. -/
import Derived.Test.YtpjgfkdnjkfnfaaPE
import Derived.Test.YtpjgfkdnjkfnfaaR
namespace Go.Proofs.Ytpjgfkdnjkfnfaa
open Go.RowKit Go.Maps

theorem Own.set {w : World} {e : TypeId} {size n c g off : Nat} {xs : List Value} (h : Own w e size (.slice (some ⟨g, off, none⟩) n c) n xs) (o j : Nat) (hj : o = off + j) (u : Value) :
    Own (w.setCell ⟨g, o, none⟩ u) e size (.slice (some ⟨g, off, none⟩) n c) n (xs.set j u) := by
  subst hj
  refine ⟨by rw [List.length_set]; exact h.1, ?_⟩
  rcases h.2 with ⟨h1, _⟩ | ⟨g', off', cap, cur, hv, hg, hnc, hcm, hcs, ht⟩
  · cases h1
  · injection hv with h1 _ h3
    injection h1 with h1
    injection h1 with h1 h4
    subst h1 h3 h4
    refine .inr ⟨g, off, c, _, rfl, heap_setCell_at hg u, hnc, hcm, by simpa using hcs, ?_⟩
    have hmul : n * size ≤ c * size := Nat.mul_le_mul_right _ hnc
    rw [← ht, Array.toList_setIfInBounds, List.drop_set, if_neg (by omega), List.take_set]
    congr 2
    omega

set_option maxRecDepth 20000 in
theorem same_any (A B : Option Addr) (c d : Nat) (ls : List Lk) (w : World) (hA : LkSl w A ls.length ls) (hB : LkSl w B ls.length ls) (hn : ls.length ≤ 256) :
    Calls Try.prog 36 #[.slice A ls.length c, .slice B ls.length d] w fun e w' => e = .returned (.bool true) ∧ Ext w w' := by
  have HA := Lib.hid hA
  have HB := Lib.hid hB
  clear hA hB
  go_enter Try.func36, Try.ntmps36
  go_wp2_with fail
  go_loopw [5] (fun i wr => ∃ k : Nat, k ≤ ls.length ∧ i = .int .i64 k ∧ Ext w wr) (fun i _ => ls.length - (intOf i).toNat)
  case atStart => exact ⟨0, Nat.zero_le _, rfl, Ext.refl _⟩
  case round =>
    obtain ⟨k, hk, rfl, hx⟩ := hrel
    by_cases hlt : k < ls.length
    · obtain ⟨b1, off1, y1, rfl, hb1, hy1, f1, f2, f3, f4⟩ := (HA.out.ext hx).lt_cell hlt
      obtain ⟨b2, off2, y2, rfl, hb2, hy2, g1, g2, g3, g4⟩ := (HB.out.ext hx).lt_cell hlt
      obtain rfl : y1 = y2 := by rw [hy1] at hy2; exact Option.some.inj hy2
      have z1 : ∀ wx, Ext wr wx → wx.cell? ⟨b1, off1 + k * 4, none⟩ = some (.int .i64 y1.who) := fun wx h => h.cell_some f1
      have z2 : ∀ wx, Ext wr wx → wx.cell? ⟨b1, off1 + k * 4 + 1, none⟩ = some (.int .i64 y1.pos) := fun wx h => h.cell_some f2
      have z3 : ∀ wx, Ext wr wx → wx.cell? ⟨b1, off1 + k * 4 + 2, none⟩ = some (.int .i64 y1.num) := fun wx h => h.cell_some f3
      have z4 : ∀ wx, Ext wr wx → wx.cell? ⟨b1, off1 + k * 4 + 3, none⟩ = some (.bool y1.sh) := fun wx h => h.cell_some f4
      have u1 : ∀ wx, Ext wr wx → wx.cell? ⟨b2, off2 + k * 4, none⟩ = some (.int .i64 y1.who) := fun wx h => h.cell_some g1
      have u2 : ∀ wx, Ext wr wx → wx.cell? ⟨b2, off2 + k * 4 + 1, none⟩ = some (.int .i64 y1.pos) := fun wx h => h.cell_some g2
      have u3 : ∀ wx, Ext wr wx → wx.cell? ⟨b2, off2 + k * 4 + 2, none⟩ = some (.int .i64 y1.num) := fun wx h => h.cell_some g3
      have u4 : ∀ wx, Ext wr wx → wx.cell? ⟨b2, off2 + k * 4 + 3, none⟩ = some (.bool y1.sh) := fun wx h => h.cell_some g4
      have i1 : (k : Int) < (ls.length : Int) := by omega
      clear hy1 hy2 f1 f2 f3 f4 g1 g2 g3 g4
      go_wp2_with fail
      refine region_lin (fun wx => Ext wr wx) 100000 [(0, 3), (1, 3), (2, 3), (3, 0), (4, 3), (5, 3), (6, 3), (7, 0), (8, 3)] ?_ (by kernel_rfl) (by kernel_rfl) ?_ (fun _ _ _ _ _ h => h) ((Ext.refl _).drew) ?_
      rotate_left
      (simp only [planOps, List.mapM_cons, List.mapM_nil, List.getElem?_toArray, List.getElem?_cons_zero, List.getElem?_cons_succ, Option.map_some, Option.bind_eq_bind, Option.bind_some, Option.pure_def]; rfl)
      intro wd hwd hxd
      repeat (first | (refine lin_take ?_ (by rfl) (fun wx hx => ?_) ?_; rotate_left; go_simp; (with_reducible rfl); try simp only [Act.put, List.setIfInBounds_toArray, List.set_cons_zero, List.set_cons_succ]) | (refine lin_skip (by rfl) ?_; try simp only [Act.put, List.setIfInBounds_toArray, List.set_cons_zero, List.set_cons_succ]) | (refine lin_take3 ?_ (by rfl) (fun wx hx => ?_) ?_; rotate_left; go_simp; (with_reducible rfl); try simp only [Act.put, List.setIfInBounds_toArray, List.set_cons_zero, List.set_cons_succ]))
      refine lin_nil ?_
      go_wp2_with fail
      go_roundw
      case rel => exact ⟨k + 1, by omega, by go_num, hx.trans hxd⟩
      case measure => simp [intOf]; omega
    · go_wp2_with fail
      go_ret
      exact ⟨rfl, hx⟩

set_option maxRecDepth 20000 in
set_option maxHeartbeats 1000000 in
theorem is_any (A B : Option Addr) (c d : Nat) (ls : List Lk) (w : World) (hA : Own w 29 4 (.slice A ls.length c) ls.length (flat ls)) (hB : LkSl w B ls.length ls) (hn : ls.length ≤ 256) :
    Calls Try.prog 23 #[.slice A ls.length c, .slice B ls.length d] w fun e w' => e = .returned (.bool true) ∧ Mod (fun k => (Value.slice A ls.length c).ownBlock = some k) w w' := by
  have HA := Lib.hid hA
  have HB := Lib.hid hB
  clear hA hB
  go_enter Try.func23, Try.ntmps23
  go_wp2_with (go_at_call 36; refine (same_any A B c d ls w (LkSl.of_own HA.out) HB.out hn).mono ?_; rintro e w1 ⟨rfl, hx1⟩)
  have HM1 : Hid (Mod (fun k => (Value.slice A ls.length c).ownBlock = some k) w w1) := Mod.mono hx1 (fun _ _ f => f.elim)
  have HO1 := Lib.hid (HA.out.ext hx1)
  clear hx1
  go_loopw [6] (fun i wr => ∃ k : Nat, k ≤ ls.length ∧ i = .int .i64 k ∧ Mod (fun k => (Value.slice A ls.length c).ownBlock = some k) w wr ∧ ∃ xs, Own wr 29 4 (.slice A ls.length c) ls.length xs) (fun i _ => ls.length - (intOf i).toNat)
  case atStart => exact ⟨0, Nat.zero_le _, rfl, HM1.out, _, HO1.out⟩
  case round =>
    obtain ⟨k, hk, rfl, hm, xs, ho⟩ := hrel
    have HM := Lib.hid hm
    have HO := Lib.hid ho
    clear hm
    by_cases hlt : k < ls.length
    · obtain ⟨A', c', hv, -, hA'⟩ := ho.form
      injection hv with h1 _ h3
      subst h1 h3
      obtain ⟨g, off, rfl, hg⟩ := hA' (by omega)
      have hlen : xs.length = ls.length * 4 := ho.1
      have c0 : wr.cell? ⟨g, off + k * 4, none⟩ = some (xs[k * 4]'(by omega)) := ho.cells rfl (k * 4) _ (List.getElem?_eq_getElem (by omega))
      have c1 : wr.cell? ⟨g, off + k * 4 + 1, none⟩ = some (xs[k * 4 + 1]'(by omega)) := ho.cells rfl (k * 4 + 1) _ (List.getElem?_eq_getElem (by omega))
      have c2 : wr.cell? ⟨g, off + k * 4 + 2, none⟩ = some (xs[k * 4 + 2]'(by omega)) := ho.cells rfl (k * 4 + 2) _ (List.getElem?_eq_getElem (by omega))
      have c3 : wr.cell? ⟨g, off + k * 4 + 3, none⟩ = some (xs[k * 4 + 3]'(by omega)) := ho.cells rfl (k * 4 + 3) _ (List.getElem?_eq_getElem (by omega))
      have f0 := ho.frozen rfl (off + k * 4)
      have f1 := ho.frozen rfl (off + k * 4 + 1)
      have f2 := ho.frozen rfl (off + k * 4 + 2)
      have f3 := ho.frozen rfl (off + k * 4 + 3)
      clear ho hA'
      go_wp2_with fail
      refine ⟨⟨k + 1, by omega, by go_num, ?_, _, ((((HO.out.set _ (k * 4) rfl _).set _ (k * 4 + 1) (by omega) _).set _ (k * 4 + 2) (by omega) _).set _ (k * 4 + 3) (by omega) _)⟩, by simp [intOf]; omega⟩
      iterate 4 refine Mod.setCell ?_ _ _ (fun _ => rfl)
      exact HM.out
    · obtain ⟨i, hi, hz, hsz, hby⟩ := info_parts Try.info29
      go_wp2_with fail
      go_loopw [0, 7] (fun a i wr => ∃ (k : Nat) (A' : Option Addr) (c' : Nat) (xs : List Value), k ≤ 9 ∧ i = .int .i64 k ∧ a = .slice A' (ls.length + k) c' ∧ Own wr 29 4 (.slice A' (ls.length + k) c') (ls.length + k) xs ∧ (∀ j, (Value.slice A' (ls.length + k) c').ownBlock = some j → (Value.slice A ls.length c).ownBlock = some j ∨ w.heap.size ≤ j) ∧ Mod (fun k => (Value.slice A ls.length c).ownBlock = some k) w wr) (fun _ i _ => 9 - (intOf i).toNat)
      case atStart => exact ⟨0, A, c, xs, Nat.zero_le _, rfl, rfl, HO.out, fun j h => .inl h, HM.out⟩
      case round =>
        obtain ⟨k, A', c', ys, hk, rfl, rfl, ho2, hb2, hm2⟩ := hrel
        have HO2 := Lib.hid ho2
        have HB2 := Lib.hid hb2
        have HM2 := Lib.hid hm2
        clear ho2 hb2 hm2
        by_cases hlt : k < 9
        · go_wp2_with (at_builtin; go_must (refine wpList_append_own_any _ rfl (.tmp 25) (.tmp 27) 25 rfl 29 i _ 4 32 Try.underlying25 hi hz hsz hby rfl (by decide) (.slice A' (ls.length + k) c') (ls.length + k) ys rfl (HO2.out.ext ((Ext.refl _).alloc _)) (some ⟨wr.heap.size, 0, none⟩) 1 1 (Lk.enc ⟨-8, 0, 0, false⟩) rfl rfl (fun _ => ⟨_, rfl, new_cells _ _ _⟩) (flat_one [⟨-8, 0, 0, false⟩]) (by unfold maxLen; omega) (by omega) ?_))
          intro v' w1 ho hg hv'
          have HB : Hid (∀ j, v'.ownBlock = some j → (Value.slice A ls.length c).ownBlock = some j ∨ w.heap.size ≤ j) := fun j hj => by
            rcases hv' with h | h
            · exact HB2.out j (h ▸ hj)
            · rw [h] at hj; injection hj with hj; have := HM2.out.size
              right; omega
          have HM3 : Hid (Mod (fun k => (Value.slice A ls.length c).ownBlock = some k) w w1) := Mod.grown (HM2.out.alloc _) hg (fun j hj hl => by
            rcases HB2.out j hj with h | h
            · exact h
            · omega)
          have HO3 := Lib.hid ho
          obtain ⟨A3, c3, rfl, -, -⟩ := ho.form
          clear ho hg hv'
          go_wp2_with fail
          go_roundw
          case rel => exact ⟨k + 1, A3, c3, _, by omega, by go_num, rfl, HO3.out, HB.out, HM3.out⟩
          case measure => simp [intOf]; omega
        · have hk9 : k = 9 := by omega
          subst hk9
          have hwr : IntKind.i64.wrap ((ls.length : Int) + 9) = (ls.length : Int) + 9 := IntWalk.i64_in _ (by omega)
          go_wp2_with fail
          go_ret
          exact ⟨rfl, HM2.out⟩
end Go.Proofs.Ytpjgfkdnjkfnfaa
