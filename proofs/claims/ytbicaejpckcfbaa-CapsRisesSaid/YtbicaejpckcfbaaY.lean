/- The statement CapsRises walked. -/
import Derived.Test.YtbicaejpckcfbaaX
namespace Go.Proofs.Ytbicaejpckcfbaa
open Go.RowKit

def Pair (w wr : World) (v1 v2 : Value) (L1 L2 : List Nat) : Prop := Mine w wr v1 L1 ∧ Mine w wr v2 L2 ∧ ∀ k, v1.ownBlock = some k → v2.ownBlock ≠ some k
theorem Pair.symm {w wr v1 v2 L1 L2} (h : Pair w wr v1 v2 L1 L2) : Pair w wr v2 v1 L2 L1 := ⟨h.2.1, h.1, fun k h1 h2 => h.2.2 k h2 h1⟩
theorem Pair.ext {w wr wr' v1 v2 L1 L2} (h : Pair w wr v1 v2 L1 L2) (he : Ext wr wr') : Pair w wr' v1 v2 L1 L2 := ⟨h.1.ext he, h.2.1.ext he, h.2.2⟩
theorem Pair.push {w wr w2 v1 v2 v' L1 L2 x} (h : Pair w wr v1 v2 L1 L2) (o : Obj) (ho : Own w2 5 1 v' (L1.length + 1) (u8s L1 ++ u8s [x])) (hg : (wr.alloc o).grownBy w2 v1.ownBlock) (hv : v'.ownBlock = v1.ownBlock ∨ v'.ownBlock = some (wr.alloc o).heap.size) : Pair w w2 v' v2 (L1 ++ [x]) L2 := by
  have h1 := h.1.push o ho hg hv
  have hm : Mod (fun k => v1.ownBlock = some k) (wr.alloc o) w2 := (Mod.refl _ _).grown hg (fun k h _ => h)
  refine ⟨h1, ⟨h1.1, (h.2.1.2.1.ext ((Ext.refl _).alloc o)).mod hm (fun k hk hk1 => h.2.2 k hk1 hk), h.2.1.2.2⟩, fun k hk hk2 => ?_⟩
  rcases hv with e | e
  · exact h.2.2 k (e ▸ hk) hk2
  · rw [e] at hk; injection hk with hk; have := h.2.1.2.1.lt k hk2; simp at hk; omega
def lowN (xs ys : List Nat) (k : Nat) : List Nat := (List.range k).map fun i => xs.getD i 0 &&& ys.getD i 0
def highN (ys : List Nat) (k : Nat) : List Nat := (List.range k).map fun i => ys.getD i 0
theorem low_len (xs ys : List Nat) (k : Nat) : (lowN xs ys k).length = k := by simp [lowN]
theorem high_len (ys : List Nat) (k : Nat) : (highN ys k).length = k := by simp [highN]
theorem low_succ {xs ys : List Nat} {k x y : Nat} (hx : xs[k]? = some x) (hy : ys[k]? = some y) : lowN xs ys (k + 1) = lowN xs ys k ++ [x &&& y] := by
  unfold lowN
  rw [List.range_succ, List.map_append]
  simp [List.getD, hx, hy]
theorem high_succ {ys : List Nat} {k y : Nat} (hy : ys[k]? = some y) : highN ys (k + 1) = highN ys k ++ [y] := by
  unfold highN
  rw [List.range_succ, List.map_append]
  simp [List.getD, hy]
theorem lessL_map (l : List Nat) (f g : Nat → Nat) (h : ∀ i, f i &&& g i = f i) : LessL (l.map f) (l.map g) := by
  induction l with
  | nil => exact .nil
  | cons x l ih => exact .cons (h x) ih
theorem low_high (xs ys : List Nat) (k : Nat) : LessL (lowN xs ys k) (highN ys k) := lessL_map _ _ _ fun i => by rw [Nat.and_assoc, Nat.and_self]

theorem stack_lt' (ls : List Wr) (leaf : Nat) : (stackN ls leaf).1 < 16 := by
  unfold stackN
  split
  · show 0 < 16; decide
  · split
    · show 0 < 16; decide
    · exact foldS_lt ls leaf (by omega)
theorem all_mem {c x : Nat} (h : x ∈ allN c) : x < 16 ∧ x &&& c = x := by
  unfold allN at h
  split at h
  · obtain ⟨h1, h2⟩ := List.mem_filter.1 h
    exact ⟨List.mem_range.1 h1, of_decide_eq_true h2⟩
  · simp at h

set_option maxRecDepth 20000 in
set_option maxHeartbeats 4000000 in
theorem capsRises_walk (kd N M K : Int) (A : Option Addr) (n c : Nat) (xs : List Nat) (B : Option Addr) (n' c' : Nat) (ys : List Nat) (C : Option Addr) (m d : Nat) (ls : List Wr) (leaf : Nat) (w : World) (h1 : -128 ≤ kd) (h2 : kd ≤ 127)
    (hA : SetSl w A n xs) (hB : SetSl w B n' ys) (ha : ∀ x ∈ xs, x < 256) (hb : ∀ x ∈ ys, x < 256) (hn : n + 4096 ≤ 140737488355328) (_hn' : n' + 4096 ≤ 140737488355328) (hs : WrSl w C m ls) (hok : ∀ x ∈ ls, x.ok) (hm : m ≤ 9223372036854775807) (hlf : leaf < 256) :
    Calls Try.prog 7 #[.agg #[.int .i8 kd, .int .i64 N, .int .i64 M, .int .u64 K], .slice A n c, .slice B n' c', .slice C m d, .int .u8 (leaf : Int)] w fun e w' => e = .returned (.bool true) ∧ Ext w w' := by
  have HA := Lib.hid hA
  have HB := Lib.hid hB
  have Ha := Lib.hid ha
  have Hb := Lib.hid hb
  have HS := Lib.hid hs
  have HK := Lib.hid hok
  have He0 : Hid (Ext w (w.alloc (.cells #[.int .i8 kd, .int .i64 N, .int .i64 M, .int .u64 K] 25))) := (Ext.refl _).alloc _
  have q0 : ∀ wx, Ext (w.alloc (.cells #[.int .i8 kd, .int .i64 N, .int .i64 M, .int .u64 K] 25)) wx → wx.cell? ⟨w.heap.size, 0, none⟩ = some (.int .i8 kd) := fun wx h => h.cell_new 0
  have q1 : ∀ wx, Ext (w.alloc (.cells #[.int .i8 kd, .int .i64 N, .int .i64 M, .int .u64 K] 25)) wx → wx.cell? ⟨w.heap.size, 1, none⟩ = some (.int .i64 N) := fun wx h => h.cell_new 1
  have q2 : ∀ wx, Ext (w.alloc (.cells #[.int .i8 kd, .int .i64 N, .int .i64 M, .int .u64 K] 25)) wx → wx.cell? ⟨w.heap.size, 2, none⟩ = some (.int .i64 M) := fun wx h => h.cell_new 2
  have q3 : ∀ wx, Ext (w.alloc (.cells #[.int .i8 kd, .int .i64 N, .int .i64 M, .int .u64 K] 25)) wx → wx.cell? ⟨w.heap.size, 3, none⟩ = some (.int .u64 K) := fun wx h => h.cell_new 3
  have qs : ∀ wx, Ext (w.alloc (.cells #[.int .i8 kd, .int .i64 N, .int .i64 M, .int .u64 K] 25)) wx → w.heap.size < wx.heap.size := fun wx h => h.lt_new
  have HQ : Hid (∀ wx, Ext (w.alloc (.cells #[.int .i8 kd, .int .i64 N, .int .i64 M, .int .u64 K] 25)) wx → wx.cell? ⟨w.heap.size, 0, none⟩ = some (.int .i8 kd) ∧ wx.cell? ⟨w.heap.size, 1, none⟩ = some (.int .i64 N) ∧ wx.cell? ⟨w.heap.size, 2, none⟩ = some (.int .i64 M) ∧ wx.cell? ⟨w.heap.size, 3, none⟩ = some (.int .u64 K)) := fun wx h => ⟨q0 _ h, q1 _ h, q2 _ h, q3 _ h⟩
  clear hA hB ha hb hs hok q0 q1 q2 q3 qs
  obtain ⟨i, hi, hz, hsz, hby⟩ := info_parts Try.info5
  obtain ⟨nn, hnn, hnn1, hnn2⟩ : ∃ nn : Nat, (min (n : Int) (n' : Int)) = (nn : Int) ∧ nn ≤ n ∧ nn ≤ n' := ⟨min n n', by omega, by omega, by omega⟩
  go_enter Try.func7, Try.ntmps7
  go_wp2_with fail
  refine (works_any _).mono ?_
  rintro e w1 ⟨rfl, hx1⟩
  have HX1 := Lib.hid hx1
  have HW1 := Lib.hid (He0.out.trans hx1)
  clear hx1
  go_wp2_with fail
  clear hnn
  go_loopw [12, 13, 29] (fun l1 l2 i wr => ∃ (k : Nat) (A1 A2 : Option Addr) (c1 c2 : Nat), k ≤ nn ∧ i = .int .i64 k ∧ l1 = .slice A1 k c1 ∧ l2 = .slice A2 k c2 ∧ Pair w1 wr (.slice A1 k c1) (.slice A2 k c2) (lowN xs ys k) (highN ys k)) (fun _ _ i _ => nn - (intOf i).toNat)
  case atStart => exact ⟨0, none, none, 0, 0, Nat.zero_le _, rfl, rfl, rfl, Mine.nil w1, Mine.nil w1, fun k h => by simp [Value.ownBlock] at h⟩
  case round =>
    obtain ⟨k, A1, A2, c1, c2, hk, rfl, rfl, rfl, hP⟩ := hrel
    have HP := Lib.hid hP
    have HWr := Lib.hid (HW1.out.trans hP.1.1)
    clear hP
    by_cases hlt : k < nn
    · have hkn : k < n := by omega
      have hkn' : k < n' := by omega
      obtain ⟨b1, o1, x, rfl, hb1, hxe, p1⟩ := HA.out.at hkn
      obtain ⟨b2, o2, y, rfl, hb2, hye, p2⟩ := HB.out.at hkn'
      have hws := HWr.out.size
      have hw1s := HW1.out.size
      have hlo := HP.out.1.2.2
      have p1 : ∀ wx, Mod (fun j => (Value.slice A1 k c1).ownBlock = some j) wr wx → wx.cell? ⟨b1, o1 + k, none⟩ = some (.int .u8 (x : Int)) := fun wx h => (h.cell (by show b1 < _; omega) (fun hj => by have := hlo b1 hj; omega)).trans (p1 _ HWr.out)
      have p2 : ∀ wx, Mod (fun j => (Value.slice A1 k c1).ownBlock = some j) wr wx → wx.cell? ⟨b2, o2 + k, none⟩ = some (.int .u8 (y : Int)) := fun wx h => (h.cell (by show b2 < _; omega) (fun hj => by have := hlo b2 hj; omega)).trans (p2 _ HWr.out)
      clear hlo
      have Hxe := Lib.hid hxe
      have Hye := Lib.hid hye
      have hx8 := Ha.out x (List.mem_of_getElem? hxe)
      have hy8 := Hb.out y (List.mem_of_getElem? hye)
      have hbit := bits_and8 hx8 hy8
      have hl1 := low_len xs ys k
      have hl2 := high_len ys k
      have HLs := Lib.hid hl1
      have HLh := Lib.hid hl2
      clear hxe hye hl1 hl2
      go_wp2_with fail
      refine region_lin (fun wx => Mod (fun j => (Value.slice A1 k c1).ownBlock = some j) wr wx) 100000 [(0, 3), (1, 3), (2, 3), (3, 3), (4, 0), (5, 3), (6, 3), (7, 3), (8, 0), (9, 3), (10, 1), (11, 1), (12, 3)] ?_ (by kernel_rfl) (by kernel_rfl) ?_ (fun _ _ _ _ _ h => h) ((Mod.refl _ _).drew) ?_
      rotate_left
      (simp only [planOps, List.mapM_cons, List.mapM_nil, List.getElem?_toArray, List.getElem?_cons_zero, List.getElem?_cons_succ, Option.map_some, Option.bind_eq_bind, Option.bind_some, Option.pure_def]; rfl)
      intro wd hwd hxd
      repeat (first | (refine lin_take ?_ (by rfl) (fun wx hx => ?_) ?_; rotate_left; go_simp; (with_reducible rfl); try simp only [Act.put, List.setIfInBounds_toArray, List.set_cons_zero, List.set_cons_succ]) | (refine lin_skip (by rfl) ?_; try simp only [Act.put, List.setIfInBounds_toArray, List.set_cons_zero, List.set_cons_succ]) | (refine lin_take3 ?_ (by rfl) (fun wx hx => ?_) ?_; rotate_left; go_simp; (with_reducible rfl); try simp only [Act.put, List.setIfInBounds_toArray, List.set_cons_zero, List.set_cons_succ]))
      refine lin_run (by rfl) (fun K1 hK1 => ?_)
      go_simp
      refine hK1 _ _ (hwd.alloc _) ?_
      refine lin_run (by rfl) (fun K2 hK2 => ?_)
      have HPd := Lib.hid (HP.out.ext hxd)
      have ho0 := (HPd.out.1.2.1).ext ((Ext.refl _).alloc (.cells #[.int .u8 ((x &&& y : Nat) : Int)] 5))
      rw [HLs.out] at ho0
      refine wp_append_own_any _ (.tmp 32) (.tmp 42) 26 rfl 5 i _ 1 1 Try.underlying26 hi hz hsz hby rfl (by decide) (.slice A1 k c1) k (u8s (lowN xs ys k)) rfl ho0 (some ⟨wd.heap.size, 0, none⟩) 1 1 (u8s [x &&& y]) rfl rfl
        (fun _ => ⟨_, rfl, new_cells _ _ _⟩) (u8s_one _) (by unfold maxLen; omega) (by omega) ?_
      intro v' w3 ho hg hv'
      have hm3 := (hwd.alloc (.cells #[.int .u8 ((x &&& y : Nat) : Int)] 5)).grown hg (fun j hj _ => hj)
      have HP3 : Hid (Pair w1 w3 v' (.slice A2 k c2) (lowN xs ys (k + 1)) (highN ys k)) := by
        show Pair _ _ _ _ _ _
        rw [low_succ Hxe.out Hye.out]
        exact HPd.out.push _ (by rw [HLs.out]; exact ho) hg (by simpa using hv')
      obtain ⟨A3, c3, rfl, -, -⟩ := ho.form
      refine hK2 _ _ hm3 ?_
      have d2 := p2 _ hm3
      clear ho hg hv' ho0
      try simp only [Act.put, List.setIfInBounds_toArray, List.set_cons_zero, List.set_cons_succ]
      repeat (first | (refine lin_take ?_ (by rfl) (fun wx hx => ?_) ?_; rotate_left; go_simp; (with_reducible rfl); try simp only [Act.put, List.setIfInBounds_toArray, List.set_cons_zero, List.set_cons_succ]) | (refine lin_skip (by rfl) ?_; try simp only [Act.put, List.setIfInBounds_toArray, List.set_cons_zero, List.set_cons_succ]) | (refine lin_take3 ?_ (by rfl) (fun wx hx => ?_) ?_; rotate_left; go_simp; (with_reducible rfl); try simp only [Act.put, List.setIfInBounds_toArray, List.set_cons_zero, List.set_cons_succ]))
      refine lin_nil ?_
      have hoh := (HP3.out.2.1.2.1).ext ((Ext.refl _).alloc (.cells #[.int .u8 (y : Int)] 5))
      rw [HLh.out] at hoh
      have Hoh := Lib.hid hoh
      clear hoh hm3 hwd hxd p1 p2 hbit
      go_wp2_with (at_builtin; refine wpList_append_own_any _ rfl (.tmp 44) (.tmp 49) 26 rfl 5 i _ 1 1 Try.underlying26 hi hz hsz hby rfl (by decide) (.slice A2 k c2) k (u8s (highN ys k)) rfl Hoh.out (some ⟨w3.heap.size, 0, none⟩) 1 1 (u8s [y]) rfl rfl (fun _ => ⟨_, rfl, new_cells _ _ _⟩) (u8s_one _) (by unfold maxLen; omega) (by omega) ?_)
      intro v' w4 ho hg hv'
      have HP4 : Hid (Pair w1 w4 (.slice A3 (k + 1) c3) v' (lowN xs ys (k + 1)) (highN ys (k + 1))) := by
        show Pair _ _ _ _ _ _
        rw [high_succ Hye.out]
        exact (HP3.out.symm.push _ (by rw [HLh.out]; exact ho) hg (by simpa using hv')).symm
      obtain ⟨A4, c4, rfl, -, -⟩ := ho.form
      clear ho hg hv' d2
      go_wp2_with fail
      go_roundw
      case rel => exact ⟨k + 1, A3, A4, c3, c4, by omega, by go_num, rfl, rfl, HP4.out⟩
      case measure => simp [intOf]; omega
    · obtain ⟨z0, z1, z2, z3⟩ := HQ.out _ (HX1.out.trans HP.out.1.1)
      have hsl : SetSl wr A1 k (lowN xs ys k) := SetSl.of_own (by have := HP.out.1.2.1; rwa [low_len] at this) (low_len xs ys k).symm (Nat.le_refl _) (fun j x hj => by simp [u8s, hj])
      have hsh : SetSl wr A2 k (highN ys k) := SetSl.of_own (by have := HP.out.2.1.2.1; rwa [high_len] at this) (high_len ys k).symm (Nat.le_refl _) (fun j x hj => by simp [u8s, hj])
      have Hsl := Lib.hid hsl
      have Hsh := Lib.hid hsh
      clear hsl hsh
      have hkk : k ≤ 9223372036854775807 := by omega
      obtain ⟨ea, ee, hea⟩ : ∃ (a : Nat) (b : Int), overN kd (lowN xs ys k) = (a, b) := ⟨_, _, rfl⟩
      obtain ⟨fa, fe, hfa⟩ : ∃ (a : Nat) (b : Int), overN kd (highN ys k) = (a, b) := ⟨_, _, rfl⟩
      have hea16 : ea < 16 := by have := over_lt kd (lowN xs ys k); rwa [hea] at this
      have hfa16 : fa < 16 := by have := over_lt kd (highN ys k); rwa [hfa] at this
      have Hrise : Hid (ee = 0 → fe = 0 → lessB ea fa = true) := fun h1 h2 => by
        have := @over_rises kd _ _ (low_high xs ys k)
        rw [hea, hfa] at this
        exact decide_eq_true (this h1 h2)
      have Hea := Lib.hid hea
      have Hfa := Lib.hid hfa
      clear hea hfa
      go_wp2_with fail
      refine (over_any kd N M K A1 k c1 (lowN xs ys k) wr Hsl.out hkk h1 h2).mono ?_
      rintro e y1 ⟨rfl, hy1⟩
      rw [Hea.out]
      have HY1 := Lib.hid (HP.out.1.1.trans hy1)
      have Hsh1 := Lib.hid (Hsh.out.ext hy1)
      obtain ⟨z0, z1, z2, z3⟩ := HQ.out _ (HX1.out.trans (HP.out.1.1.trans hy1))
      clear hy1
      go_wp2_with fail
      refine (over_any kd N M K A2 k c2 (highN ys k) y1 Hsh1.out hkk h1 h2).mono ?_
      rintro e y2 ⟨rfl, hy2⟩
      rw [Hfa.out]
      have HY2 := Lib.hid (HW1.out.trans (HY1.out.trans hy2))
      clear hy2 z0 z1 z2 z3
      obtain ⟨sa, se, hsv⟩ : ∃ (sa : Nat) (se : Int), stackN ls leaf = (sa, se) := ⟨_, _, rfl⟩
      have Hsv := Lib.hid hsv
      have hsa16 : sa < 16 := by have := stack_lt' ls leaf; rwa [hsv] at this
      clear hsv HA HB Ha Hb HP HY1 Hsh Hsl Hsh1 HQ HX1 HW1
      by_cases hee : ee = 0
      · subst hee
        by_cases hfe : fe = 0
        · subst hfe
          have hl := Hrise.out rfl rfl
          clear Hrise
          go_wp2_with fail
          refine (less_any ea fa (by omega) (by omega) y2).mono ?_
          rintro e y3 ⟨rfl, rfl⟩
          rw [hl]
          go_wp2_with fail
          refine (stack_any C m d ls leaf _ (HS.out.ext HY2.out) HK.out hm).mono ?_
          rintro e y4 ⟨rfl, hy4⟩
          rw [Hsv.out]
          have HY4 := Lib.hid (HY2.out.trans hy4)
          clear hy4
          by_cases hse : se = 0
          · subst hse
            go_wp2_with fail
            refine (all_any leaf hlf y4).mono ?_
            rintro e y5 ⟨A5, c5, rfl, hy5, ho5, -⟩
            have HY5 := Lib.hid (HY4.out.trans hy5)
            have HS5 := Lib.hid (own_sets ho5)
            have hlen := allN_len leaf
            clear hy5 ho5
            go_wp2_with fail
            go_loopw [87] (fun i wr => ∃ k : Nat, k ≤ (allN leaf).length ∧ i = .int .i64 k ∧ Ext y5 wr) (fun i _ => (allN leaf).length - (intOf i).toNat)
            case atStart => exact ⟨0, Nat.zero_le _, rfl, Ext.refl _⟩
            case round =>
              obtain ⟨k, hk, rfl, hx⟩ := hrel
              have HX := Lib.hid hx
              clear hx
              by_cases hlt : k < (allN leaf).length
              · obtain ⟨b, o, x, rfl, -, hxe, p1⟩ := (HS5.out.ext HX.out).at hlt
                have d0 := p1 _ (Ext.refl _)
                obtain ⟨hx16, hxl⟩ := all_mem (List.mem_of_getElem? hxe)
                obtain ⟨ta, te, htv⟩ : ∃ (sa : Nat) (se : Int), stackN ls x = (sa, se) := ⟨_, _, rfl⟩
                have hta16 : ta < 16 := by have := stack_lt' ls x; rwa [htv] at this
                have hrise := @stack_rises ls x leaf hxl (by rw [Hsv.out])
                rw [htv, Hsv.out] at hrise
                obtain ⟨hte, hta⟩ := hrise
                have hte : te = 0 := hte
                subst hte
                have hlb : lessB ta sa = true := decide_eq_true hta
                have Htv := Lib.hid htv
                clear hxe p1 htv hta hxl
                go_wp2_with fail
                refine (stack_any C m d ls x _ (HS.out.ext (HY5.out.trans HX.out)) HK.out hm).mono ?_
                rintro e y6 ⟨rfl, hy6⟩
                rw [Htv.out]
                have HY6 := Lib.hid (HX.out.trans hy6)
                clear hy6 d0
                go_wp2_with fail
                refine (less_any ta sa (by omega) (by omega) y6).mono ?_
                rintro e y7 ⟨rfl, rfl⟩
                rw [hlb]
                go_wp2_with fail
                go_roundw
                case rel => exact ⟨k + 1, by omega, by go_num, HY6.out⟩
                case measure => simp [intOf]; omega
              · go_wp2_with fail
                go_ret
                exact ⟨rfl, HY5.out.trans HX.out⟩
          · have q1 : (se != 0) = true := by simpa using hse
            go_wp2_with fail
            go_ret
            exact ⟨rfl, HY4.out⟩
        · have q2 : (fe == 0) = false := beq_eq_false_iff_ne.2 hfe
          clear Hrise
          go_wp2_with fail
          refine (stack_any C m d ls leaf _ (HS.out.ext HY2.out) HK.out hm).mono ?_
          rintro e y4 ⟨rfl, hy4⟩
          rw [Hsv.out]
          have HY4 := Lib.hid (HY2.out.trans hy4)
          clear hy4
          by_cases hse : se = 0
          · subst hse
            go_wp2_with fail
            refine (all_any leaf hlf y4).mono ?_
            rintro e y5 ⟨A5, c5, rfl, hy5, ho5, -⟩
            have HY5 := Lib.hid (HY4.out.trans hy5)
            have HS5 := Lib.hid (own_sets ho5)
            have hlen := allN_len leaf
            clear hy5 ho5
            go_wp2_with fail
            go_loopw [87] (fun i wr => ∃ k : Nat, k ≤ (allN leaf).length ∧ i = .int .i64 k ∧ Ext y5 wr) (fun i _ => (allN leaf).length - (intOf i).toNat)
            case atStart => exact ⟨0, Nat.zero_le _, rfl, Ext.refl _⟩
            case round =>
              obtain ⟨k, hk, rfl, hx⟩ := hrel
              have HX := Lib.hid hx
              clear hx
              by_cases hlt : k < (allN leaf).length
              · obtain ⟨b, o, x, rfl, -, hxe, p1⟩ := (HS5.out.ext HX.out).at hlt
                have d0 := p1 _ (Ext.refl _)
                obtain ⟨hx16, hxl⟩ := all_mem (List.mem_of_getElem? hxe)
                obtain ⟨ta, te, htv⟩ : ∃ (sa : Nat) (se : Int), stackN ls x = (sa, se) := ⟨_, _, rfl⟩
                have hta16 : ta < 16 := by have := stack_lt' ls x; rwa [htv] at this
                have hrise := @stack_rises ls x leaf hxl (by rw [Hsv.out])
                rw [htv, Hsv.out] at hrise
                obtain ⟨hte, hta⟩ := hrise
                have hte : te = 0 := hte
                subst hte
                have hlb : lessB ta sa = true := decide_eq_true hta
                have Htv := Lib.hid htv
                clear hxe p1 htv hta hxl
                go_wp2_with fail
                refine (stack_any C m d ls x _ (HS.out.ext (HY5.out.trans HX.out)) HK.out hm).mono ?_
                rintro e y6 ⟨rfl, hy6⟩
                rw [Htv.out]
                have HY6 := Lib.hid (HX.out.trans hy6)
                clear hy6 d0
                go_wp2_with fail
                refine (less_any ta sa (by omega) (by omega) y6).mono ?_
                rintro e y7 ⟨rfl, rfl⟩
                rw [hlb]
                go_wp2_with fail
                go_roundw
                case rel => exact ⟨k + 1, by omega, by go_num, HY6.out⟩
                case measure => simp [intOf]; omega
              · go_wp2_with fail
                go_ret
                exact ⟨rfl, HY5.out.trans HX.out⟩
          · have q1 : (se != 0) = true := by simpa using hse
            go_wp2_with fail
            go_ret
            exact ⟨rfl, HY4.out⟩
      · have q2 : (ee == 0) = false := beq_eq_false_iff_ne.2 hee
        clear Hrise
        go_wp2_with fail
        refine (stack_any C m d ls leaf _ (HS.out.ext HY2.out) HK.out hm).mono ?_
        rintro e y4 ⟨rfl, hy4⟩
        rw [Hsv.out]
        have HY4 := Lib.hid (HY2.out.trans hy4)
        clear hy4
        by_cases hse : se = 0
        · subst hse
          go_wp2_with fail
          refine (all_any leaf hlf y4).mono ?_
          rintro e y5 ⟨A5, c5, rfl, hy5, ho5, -⟩
          have HY5 := Lib.hid (HY4.out.trans hy5)
          have HS5 := Lib.hid (own_sets ho5)
          have hlen := allN_len leaf
          clear hy5 ho5
          go_wp2_with fail
          go_loopw [87] (fun i wr => ∃ k : Nat, k ≤ (allN leaf).length ∧ i = .int .i64 k ∧ Ext y5 wr) (fun i _ => (allN leaf).length - (intOf i).toNat)
          case atStart => exact ⟨0, Nat.zero_le _, rfl, Ext.refl _⟩
          case round =>
            obtain ⟨k, hk, rfl, hx⟩ := hrel
            have HX := Lib.hid hx
            clear hx
            by_cases hlt : k < (allN leaf).length
            · obtain ⟨b, o, x, rfl, -, hxe, p1⟩ := (HS5.out.ext HX.out).at hlt
              have d0 := p1 _ (Ext.refl _)
              obtain ⟨hx16, hxl⟩ := all_mem (List.mem_of_getElem? hxe)
              obtain ⟨ta, te, htv⟩ : ∃ (sa : Nat) (se : Int), stackN ls x = (sa, se) := ⟨_, _, rfl⟩
              have hta16 : ta < 16 := by have := stack_lt' ls x; rwa [htv] at this
              have hrise := @stack_rises ls x leaf hxl (by rw [Hsv.out])
              rw [htv, Hsv.out] at hrise
              obtain ⟨hte, hta⟩ := hrise
              have hte : te = 0 := hte
              subst hte
              have hlb : lessB ta sa = true := decide_eq_true hta
              have Htv := Lib.hid htv
              clear hxe p1 htv hta hxl
              go_wp2_with fail
              refine (stack_any C m d ls x _ (HS.out.ext (HY5.out.trans HX.out)) HK.out hm).mono ?_
              rintro e y6 ⟨rfl, hy6⟩
              rw [Htv.out]
              have HY6 := Lib.hid (HX.out.trans hy6)
              clear hy6 d0
              go_wp2_with fail
              refine (less_any ta sa (by omega) (by omega) y6).mono ?_
              rintro e y7 ⟨rfl, rfl⟩
              rw [hlb]
              go_wp2_with fail
              go_roundw
              case rel => exact ⟨k + 1, by omega, by go_num, HY6.out⟩
              case measure => simp [intOf]; omega
            · go_wp2_with fail
              go_ret
              exact ⟨rfl, HY5.out.trans HX.out⟩
        · have q1 : (se != 0) = true := by simpa using hse
          go_wp2_with fail
          go_ret
          exact ⟨rfl, HY4.out⟩
end Go.Proofs.Ytbicaejpckcfbaa
