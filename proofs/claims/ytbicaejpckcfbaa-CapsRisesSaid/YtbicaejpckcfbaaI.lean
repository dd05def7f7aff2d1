/- The law's same; the statement CapsOver walked. -/
import Derived.Test.YtbicaejpckcfbaaH
namespace Go.Proofs.Ytbicaejpckcfbaa
open Go.RowKit

theorem SetSl.at {w : World} {A : Option Addr} {n : Nat} {ls : List Nat} (h : SetSl w A n ls) {k : Nat} (hk : k < n) : ∃ b off x, A = some ⟨b, off, none⟩ ∧ b < w.heap.size ∧ ls[k]? = some x ∧ ∀ wx, Ext w wx → wx.cell? ⟨b, off + k, none⟩ = some (.int .u8 (x : Int)) := by
  obtain ⟨b, off, rfl, hb, hc⟩ := h.2 (by omega)
  have hkl : k < ls.length := by have := h.1; omega
  exact ⟨b, off, ls[k], rfl, hb, List.getElem?_eq_getElem hkl, fun wx he => (he.cell hb).trans (hc k _ (List.getElem?_eq_getElem hkl))⟩

set_option maxRecDepth 20000 in
theorem same_any (A B : Option Addr) (n c d : Nat) (ls : List Nat) (w : World) (hA : SetSl w A n ls) (hB : SetSl w B n ls) (hn : n ≤ 9223372036854775807) :
    Calls Try.prog 10 #[.slice A n c, .slice B n d] w fun e w' => e = .returned (.bool true) ∧ Ext w w' := by
  have HA := Lib.hid hA
  have HB := Lib.hid hB
  clear hA hB
  go_enter Try.func10, Try.ntmps10
  go_wp2_with fail
  go_loopw [13] (fun i wr => ∃ k : Nat, k ≤ n ∧ i = .int .i64 k ∧ Ext w wr) (fun i _ => n - (intOf i).toNat)
  case atStart => exact ⟨0, Nat.zero_le _, rfl, Ext.refl _⟩
  case round =>
    obtain ⟨k, hk, rfl, hx⟩ := hrel
    by_cases hlt : k < n
    · obtain ⟨b1, o1, x, rfl, -, hx1, k1⟩ := (HA.out.ext hx).at hlt
      obtain ⟨b2, o2, y, rfl, -, hy1, k2⟩ := (HB.out.ext hx).at hlt
      obtain rfl : x = y := by rw [hx1] at hy1; exact Option.some.inj hy1
      clear hx1 hy1
      go_wp2_with fail
      refine region_lin (fun wx => Ext wr wx) 100000 [(0, 3), (1, 3), (2, 3), (3, 0), (4, 3), (5, 3), (6, 3), (7, 0), (8, 3)] ?_ (by kernel_rfl) (by kernel_rfl) ?_ (fun _ _ _ _ _ h => h) ((Ext.refl _).drew) ?_
      rotate_left
      (simp only [planOps, List.mapM_cons, List.mapM_nil, List.getElem?_toArray, List.getElem?_cons_zero, List.getElem?_cons_succ, Option.map_some, Option.bind_eq_bind, Option.bind_some, Option.pure_def]; rfl)
      intro wd hwd hxd
      repeat (first | (refine lin_take ?_ (by rfl) (fun wx hx => ?_) ?_; rotate_left; go_simp; (with_reducible rfl); try simp only [Act.put, List.setIfInBounds_toArray, List.set_cons_zero, List.set_cons_succ]) | (refine lin_skip (by rfl) ?_; try simp only [Act.put, List.setIfInBounds_toArray, List.set_cons_zero, List.set_cons_succ]) | (refine lin_take3 ?_ (by rfl) (fun wx hx => ?_) ?_; rotate_left; go_simp; (with_reducible rfl); try simp only [Act.put, List.setIfInBounds_toArray, List.set_cons_zero, List.set_cons_succ]))
      refine lin_nil ?_
      go_wp2_with fail
      go_roundw
      case rel => exact ⟨k + 1, by omega, by go_num, hx.trans hxd⟩
      case measure => simp [intOf]; omega
    · go_wp2_with fail
      go_ret
      exact ⟨rfl, hx⟩

/-- The values of a list of small numbers. -/
def u8s (ls : List Nat) : List Value := ls.map fun x : Nat => Value.int .u8 (x : Int)
theorem u8s_one (ls : List Nat) : ∀ u ∈ u8s ls, u.oneCell' = true := by
  intro u hu
  obtain ⟨b, _, rfl⟩ := List.mem_map.1 hu
  rfl
theorem u8s_length (ls : List Nat) : (u8s ls).length = ls.length := List.length_map ..
theorem SetSl.of_own {w : World} {A : Option Addr} {c m n : Nat} {xs : List Value} {ls : List Nat} (h : Own w 5 1 (.slice A m c) m xs) (hn : n = ls.length) (hm : n ≤ m) (hx : ∀ (k x : Nat), ls[k]? = some x → xs[k]? = some (Value.int .u8 (x : Int))) : SetSl w A n ls := by
  refine ⟨hn, fun h0 => ?_⟩
  obtain ⟨A', c', hv, -, hA⟩ := h.form
  injection hv with h1 _ h3
  subst h1
  obtain ⟨g, off, rfl, hg⟩ := hA (by omega)
  exact ⟨g, off, rfl, hg, fun k x hk => h.cells rfl k _ (hx k x hk)⟩
theorem SetSl.news {w : World} {A : Option Addr} {n : Nat} {ls : List Nat} (h : SetSl w A n ls) : 0 < n → ∃ ad, A = some ad ∧ ∀ j u, (u8s ls)[j]? = some u → w.cell? (ad.add j) = some u := fun h0 => by
  obtain ⟨b, off, rfl, hb, hc⟩ := h.2 h0
  refine ⟨_, rfl, fun j u hu => ?_⟩
  rw [add_off]
  unfold u8s at hu
  rw [List.getElem?_map] at hu
  obtain ⟨x, hx, rfl⟩ := Option.map_eq_some_iff.1 hu
  exact hc j x hx
theorem Try.info5 : (Try.prog.info? 5).map (fun i => (i.zero, i.size, i.bytes)) = some (some (.int .u8 0), 1, 1) := by kernel_rfl

set_option maxRecDepth 20000 in
set_option maxHeartbeats 2000000 in
theorem capsOver_walk (kd N M K : Int) (A : Option Addr) (n c : Nat) (ls : List Nat) (w : World) (hs : SetSl w A n ls) (hn : n + 4096 ≤ 140737488355328) (h1 : -128 ≤ kd) (h2 : kd ≤ 127) :
    Calls Try.prog 3 #[.agg #[.int .i8 kd, .int .i64 N, .int .i64 M, .int .u64 K], .slice A n c] w fun e w' => e = .returned (.bool true) ∧ Ext w w' := by
  have HS := Lib.hid hs
  have Hl := Lib.hid hs.1
  have e0 : Ext w (w.alloc (.cells #[.int .i8 kd, .int .i64 N, .int .i64 M, .int .u64 K] 25)) := (Ext.refl _).alloc _
  have q0 : ∀ wx, Ext (w.alloc (.cells #[.int .i8 kd, .int .i64 N, .int .i64 M, .int .u64 K] 25)) wx → wx.cell? ⟨w.heap.size, 0, none⟩ = some (.int .i8 kd) := fun wx h => h.cell_new 0
  have q1 : ∀ wx, Ext (w.alloc (.cells #[.int .i8 kd, .int .i64 N, .int .i64 M, .int .u64 K] 25)) wx → wx.cell? ⟨w.heap.size, 1, none⟩ = some (.int .i64 N) := fun wx h => h.cell_new 1
  have q2 : ∀ wx, Ext (w.alloc (.cells #[.int .i8 kd, .int .i64 N, .int .i64 M, .int .u64 K] 25)) wx → wx.cell? ⟨w.heap.size, 2, none⟩ = some (.int .i64 M) := fun wx h => h.cell_new 2
  have q3 : ∀ wx, Ext (w.alloc (.cells #[.int .i8 kd, .int .i64 N, .int .i64 M, .int .u64 K] 25)) wx → wx.cell? ⟨w.heap.size, 3, none⟩ = some (.int .u64 K) := fun wx h => h.cell_new 3
  have qs : ∀ wx, Ext (w.alloc (.cells #[.int .i8 kd, .int .i64 N, .int .i64 M, .int .u64 K] 25)) wx → w.heap.size < wx.heap.size := fun wx h => h.lt_new
  have He0 := Lib.hid e0
  have hnews := Lib.hid (hs.ext e0).news
  have hc : n ≤ 9223372036854775807 := by omega
  clear hs e0
  obtain ⟨i, hi, hz, hsz, hby⟩ := info_parts Try.info5
  go_enter Try.func3, Try.ntmps3
  go_wp2_with (at_builtin; refine wpList_append_own_any _ rfl (.const (.slice none 0 0)) (.tmp 11) 26 rfl 5 i _ 1 1 Try.underlying26 hi hz hsz hby rfl (by decide) (.slice none 0 0) 0 [] rfl (Own.nil _ _ _) A n c (u8s ls) rfl (by rw [u8s_length]; have := Hl.out; omega) hnews.out (u8s_one ls) (by unfold maxLen; omega) (by omega) ?_)
  intro v1 w1 ho1 hg1 hv1
  have hx1 : Ext w w1 := He0.out.grown hg1 (fun j h => by simp [Value.ownBlock] at h)
  have hxb1 : Ext (w.alloc (.cells #[.int .i8 kd, .int .i64 N, .int .i64 M, .int .u64 K] 25)) w1 := (Ext.refl _).grown hg1 (fun j h => by simp [Value.ownBlock] at h)
  have hlo1 : ∀ j, v1.ownBlock = some j → w.heap.size < j := fun j hj => by
    rcases hv1 with h | h
    · rw [h] at hj; simp [Value.ownBlock] at hj
    · rw [h] at hj; injection hj with hj; omega
  have HO1 := Lib.hid ho1
  have HX1 := Lib.hid hx1
  have HB1 := Lib.hid hxb1
  have HL1 := Lib.hid hlo1
  obtain ⟨A1, c1, rfl, -, -⟩ := ho1.form
  clear ho1 hg1 hv1 hx1 hxb1 hlo1
  go_wp2_with (at_builtin; refine wpList_append_own_any _ rfl (.tmp 13) (.tmp 14) 26 rfl 5 i _ 1 1 Try.underlying26 hi hz hsz hby rfl (by decide) (.slice A1 n c1) n (u8s ls) rfl (HO1.out.ext ((Ext.refl _).alloc _)) (some ⟨w1.heap.size, 0, none⟩) 1 1 (u8s [78]) rfl rfl (fun _ => ⟨_, rfl, new_cells _ _ _⟩) (u8s_one [78]) (by unfold maxLen; omega) (by omega) ?_)
  intro v2 w2 ho2 hg2 hv2
  have hx2 : Ext (w.alloc (.cells #[.int .i8 kd, .int .i64 N, .int .i64 M, .int .u64 K] 25)) w2 := (HB1.out.alloc _).grown hg2 (fun j h => by have := HL1.out j h; simp; omega)
  have HB2 := Lib.hid hx2
  have HX2 : Hid (Ext w w2) := He0.out.trans hx2
  have HO2 := Lib.hid ho2
  obtain ⟨A2, c2, rfl, hcap2, -⟩ := ho2.form
  have HS2 : Hid (SetSl w2 A2 n ls) := SetSl.of_own ho2 Hl.out (by omega) (fun k x hk => by
    have hkl : k < ls.length := (List.getElem?_eq_some_iff.1 hk).1
    rw [List.getElem?_append_left (by rw [u8s_length]; exact hkl)]
    simp [u8s, hk])
  have Hlast : Hid (True ∧ ∃ g off, A2 = some ⟨g, off, none⟩ ∧ ∀ wx, Ext w2 wx → wx.cell? ⟨g, off + n, none⟩ = some (.int .u8 78)) := by
    obtain ⟨A3, c3, hv, -, hA3⟩ := ho2.form
    injection hv with h1 _ h3
    subst h1
    obtain ⟨g, off, rfl, -⟩ := hA3 (by omega)
    refine ⟨trivial, g, off, rfl, fun wx h => h.cell_some (ho2.cells rfl n _ ?_)⟩
    rw [List.getElem?_append_right (by rw [u8s_length, ← Hl.out]; exact Nat.le_refl _), u8s_length, ← Hl.out, Nat.sub_self]
    rfl
  have r0 : ∀ wx, Ext w2 wx → wx.cell? ⟨w.heap.size, 0, none⟩ = some (.int .i8 kd) := fun wx h => q0 _ (HB2.out.trans h)
  have r1 : ∀ wx, Ext w2 wx → wx.cell? ⟨w.heap.size, 1, none⟩ = some (.int .i64 N) := fun wx h => q1 _ (HB2.out.trans h)
  have r2 : ∀ wx, Ext w2 wx → wx.cell? ⟨w.heap.size, 2, none⟩ = some (.int .i64 M) := fun wx h => q2 _ (HB2.out.trans h)
  have r3 : ∀ wx, Ext w2 wx → wx.cell? ⟨w.heap.size, 3, none⟩ = some (.int .u64 K) := fun wx h => q3 _ (HB2.out.trans h)
  obtain ⟨g, off, rfl, klast⟩ := Hlast.out.2
  have hcap : n ≤ c2 := by omega
  clear ho2 hg2 hv2 hx2 q0 q1 q2 q3 qs Hlast HX1 HB1 HL1 HO1
  go_wp2_with fail
  refine region_lin (fun wx => Ext w2 wx) 100000 [(0, 0), (1, 3), (2, 3), (3, 3), (4, 3), (5, 1), (6, 3), (7, 3), (8, 3), (9, 3), (10, 3)] ?_ (by kernel_rfl) (by kernel_rfl) ?_ (fun _ _ _ _ _ h => h) ((Ext.refl _).drew) ?_
  rotate_left
  (simp only [planOps, List.mapM_cons, List.mapM_nil, List.getElem?_toArray, List.getElem?_cons_zero, List.getElem?_cons_succ, Option.map_some, Option.bind_eq_bind, Option.bind_some, Option.pure_def]; rfl)
  intro wd hwd hxd
  clear hxd
  repeat (first | (refine lin_take ?_ (by rfl) (fun wx hx => ?_) ?_; rotate_left; go_simp; (with_reducible rfl); try simp only [Act.put, List.setIfInBounds_toArray, List.set_cons_zero, List.set_cons_succ]) | (refine lin_skip (by rfl) ?_; try simp only [Act.put, List.setIfInBounds_toArray, List.set_cons_zero, List.set_cons_succ]) | (refine lin_take3 ?_ (by rfl) (fun wx hx => ?_) ?_; rotate_left; go_simp; (with_reducible rfl); try simp only [Act.put, List.setIfInBounds_toArray, List.set_cons_zero, List.set_cons_succ]))
  refine lin_run (by rfl) (fun K1 hK1 => ?_)
  go_simp
  refine (over_any kd N M K _ n c2 ls wd (HS2.out.ext hwd) hc h1 h2).mono ?_
  rintro e w3 ⟨rfl, hx3⟩
  obtain ⟨oa, oe, hov⟩ : ∃ (oa : Nat) (oe : Int), overN kd ls = (oa, oe) := ⟨_, _, rfl⟩
  rw [hov]
  have Hov := Lib.hid hov
  refine hK1 _ _ (hwd.trans hx3) ?_
  clear hov
  repeat (first | (refine lin_take ?_ (by rfl) (fun wx hx => ?_) ?_; rotate_left; go_simp; (with_reducible rfl); try simp only [Act.put, List.setIfInBounds_toArray, List.set_cons_zero, List.set_cons_succ]) | (refine lin_skip (by rfl) ?_; try simp only [Act.put, List.setIfInBounds_toArray, List.set_cons_zero, List.set_cons_succ]) | (refine lin_take3 ?_ (by rfl) (fun wx hx => ?_) ?_; rotate_left; go_simp; (with_reducible rfl); try simp only [Act.put, List.setIfInBounds_toArray, List.set_cons_zero, List.set_cons_succ]))
  refine lin_nil ?_
  have HX3 : Hid (Ext w2 w3) := hwd.trans hx3
  have s0 := r0 _ (hwd.trans hx3)
  have s1 := r1 _ (hwd.trans hx3)
  have s2 := r2 _ (hwd.trans hx3)
  have s3 := r3 _ (hwd.trans hx3)
  clear hwd hx3 r0 r1 r2 r3
  go_wp2_with fail
  refine (refover_any kd N M K A n c ls w3 (HS.out.ext (HX2.out.trans HX3.out)) hc h1 h2).mono ?_
  rintro e w4 ⟨rfl, hx4⟩
  rw [Hov.out]
  clear s0 s1 s2 s3
  have HX4 : Hid (Ext w2 w4) := HX3.out.trans hx4
  clear hx4
  go_wp2_with fail
  refine (same_any _ A n c2 c ls w4 (HS2.out.ext HX4.out) (HS.out.ext (HX2.out.trans HX4.out)) hc).mono ?_
  rintro e w5 ⟨rfl, hx5⟩
  have d0 := klast _ (HX4.out.trans hx5)
  have HX5 : Hid (Ext w2 w5) := HX4.out.trans hx5
  clear hx5 klast
  go_wp2_with fail
  refine (works_any _).mono ?_
  rintro e w6 ⟨rfl, hx6⟩
  go_wp2_with fail
  go_ret
  exact ⟨rfl, HX2.out.trans (HX5.out.trans hx6)⟩
end Go.Proofs.Ytbicaejpckcfbaa
