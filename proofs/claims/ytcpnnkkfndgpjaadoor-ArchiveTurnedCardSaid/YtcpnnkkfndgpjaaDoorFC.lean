/- The law's own small functions: bytes.Equal, same, beyond. -/
import Derived.Test.YtcpnnkkfndgpjaaDoorFB
import Derived.Test.YtcpnnkkfndgpjaaDoorPE
namespace Go.Proofs.YtcpnnkkfndgpjaaDoor
open Go.RowKit

theorem mkB_list (l : Bs) : (mkB l).toList = l := by rw [Lib.toList_data]; simp [mkB]
set_option maxRecDepth 20000 in
theorem equal_any (A B : Option Addr) (n c m d : Nat) (l k : Bs) (w : World) (h1 : BySl w A n l) (h2 : BySl w B m k) :
    Calls Tryd.prog 15 #[.slice A n c, .slice B m d] w fun e w' => e = .returned (.bool (l == k)) ∧ w = w' := by
  have r1 := run_bytes_string h1 c
  have r2 := run_bytes_string h2 d
  have e1 := mkB_list l
  have e2 := mkB_list k
  obtain ⟨a, ha⟩ : ∃ a, mkB l = a := ⟨_, rfl⟩
  obtain ⟨b, hb⟩ : ∃ b, mkB k = b := ⟨_, rfl⟩
  rw [ha] at r1 e1
  rw [hb] at r2 e2
  have E1 := Lib.hid e1
  have E2 := Lib.hid e2
  clear h1 h2 e1 e2 ha hb
  go_enter Tryd.func15, Tryd.ntmps15
  go_wp2_with fail
  go_ret
  refine ⟨?_, rfl⟩
  rw [E1.out, E2.out]
  rfl
theorem ItSl.one {w : World} {A : Option Addr} {n : Nat} {ls : List It} (h : ItSl w A n ls) : n = ls.length := h.1
set_option maxRecDepth 20000 in
set_option maxHeartbeats 2000000 in
theorem same_yes (A B : Option Addr) (n c m d : Nat) (ls : List It) (w : World) (h1 : ItSl w A n ls) (h2 : ItSl w B m ls) (hn : n ≤ 1073741824) :
    Calls Tryd.prog 16 #[.slice A n c, .slice B m d] w fun e w' => e = .returned (.bool true) ∧ Ext w w' := by
  obtain rfl : m = n := h2.1.trans h1.1.symm
  have H1 := Lib.hid h1
  have H2 := Lib.hid h2
  clear h1 h2
  go_enter Tryd.func16, Tryd.ntmps16
  go_wp2_with fail
  go_loopw [13] (fun iv wr => ∃ k : Nat, k ≤ m ∧ iv = .int .i64 (k : Int) ∧ Ext w wr) (fun iv _ => m - (intOf iv).toNat)
  case atStart => exact ⟨0, Nat.zero_le _, rfl, Ext.refl _⟩
  case round =>
    obtain ⟨k, hk, rfl, hx⟩ := hrel
    have HX := Lib.hid hx
    clear hx
    by_cases hlt : k < m
    · obtain ⟨b, off, x, D, dc, rfl, hbw, hx, c0, c1, c2, hbs⟩ := (H1.out.ext HX.out).at hlt
      obtain ⟨b', off', x', D', dc', rfl, hbw', hx', c0', c1', c2', hbs'⟩ := (H2.out.ext HX.out).at hlt
      obtain rfl : x' = x := by rw [hx] at hx'; exact (Option.some.inj hx').symm
      have C0 : ∀ wx, Ext wr wx → wx.cell? ⟨b, off + k * 3, none⟩ = some (.string (mkB x'.path)) := fun wx h => (h.cell hbw).trans c0
      have C1 : ∀ wx, Ext wr wx → wx.cell? ⟨b, off + k * 3 + 1, none⟩ = some (.int .i8 x'.kind) := fun wx h => (h.cell hbw).trans c1
      have C2 : ∀ wx, Ext wr wx → wx.cell? ⟨b, off + k * 3 + 2, none⟩ = some (.slice D x'.data.length dc) := fun wx h => (h.cell hbw).trans c2
      have C0' : ∀ wx, Ext wr wx → wx.cell? ⟨b', off' + k * 3, none⟩ = some (.string (mkB x'.path)) := fun wx h => (h.cell hbw').trans c0'
      have C1' : ∀ wx, Ext wr wx → wx.cell? ⟨b', off' + k * 3 + 1, none⟩ = some (.int .i8 x'.kind) := fun wx h => (h.cell hbw').trans c1'
      have C2' : ∀ wx, Ext wr wx → wx.cell? ⟨b', off' + k * 3 + 2, none⟩ = some (.slice D' x'.data.length dc') := fun wx h => (h.cell hbw').trans c2'
      have Hbs := Lib.hid hbs
      have Hbs' := Lib.hid hbs'
      obtain ⟨P, hP⟩ : ∃ P, mkB x'.path = P := ⟨_, rfl⟩
      rw [hP] at C0 C0'
      obtain ⟨K, hK⟩ : ∃ K, x'.kind = K := ⟨_, rfl⟩
      rw [hK] at C1 C1'
      clear hx hx' c0 c1 c2 c0' c1' c2' hbs hbs' hbw hbw' hP hK
      go_wp2_with fail
      refine region_lin (fun wx => Ext wr wx) 100000 [(0, 3), (1, 3), (2, 3), (3, 3), (4, 0), (5, 3), (6, 3), (7, 3), (8, 3), (9, 0), (10, 3), (11, 3), (12, 3), (13, 3), (14, 3), (15, 3), (16, 0), (17, 3), (18, 3), (19, 3), (20, 3), (21, 0), (22, 3), (23, 3), (24, 3), (25, 3), (26, 3), (27, 3), (28, 3), (29, 0), (30, 3), (31, 3), (32, 3), (33, 3), (34, 0), (35, 1), (36, 3), (37, 3)] ?_ (by kernel_rfl) (by kernel_rfl) ?_ (fun _ _ _ _ _ h => h) ((Ext.refl _).drew) ?_
      rotate_left
      (simp only [planOps, List.mapM_cons, List.mapM_nil, List.getElem?_toArray, List.getElem?_cons_zero, List.getElem?_cons_succ, Option.map_some, Option.bind_eq_bind, Option.bind_some, Option.pure_def]; rfl)
      intro wd hwd hxd
      repeat (first | (refine lin_take ?_ (by rfl) (fun wx hx => ?_) ?_; rotate_left; go_simp; (with_reducible rfl); try simp only [Act.put, List.setIfInBounds_toArray, List.set_cons_zero, List.set_cons_succ]) | (refine lin_skip (by rfl) ?_; try simp only [Act.put, List.setIfInBounds_toArray, List.set_cons_zero, List.set_cons_succ]) | (refine lin_take3 ?_ (by rfl) (fun wx hx => ?_) ?_; rotate_left; go_simp; (with_reducible rfl); try simp only [Act.put, List.setIfInBounds_toArray, List.set_cons_zero, List.set_cons_succ]) | (refine lin_skip3 (by rfl) ?_; try simp only [Act.put, List.setIfInBounds_toArray, List.set_cons_zero, List.set_cons_succ]))
      refine lin_run (by rfl) (fun KC hK => ?_)
      go_simp
      refine (equal_any D D' _ dc _ dc' x'.data x'.data wd (Hbs.out.ext hwd) (Hbs'.out.ext hwd)).mono ?_
      rintro e w3 ⟨rfl, rfl⟩
      rw [beq_self_eq_true]
      refine hK _ _ hwd ?_
      clear hK
      try simp only [Act.put, List.setIfInBounds_toArray, List.set_cons_zero, List.set_cons_succ]
      repeat (first | (refine lin_take ?_ (by rfl) (fun wx hx => ?_) ?_; rotate_left; go_simp; (with_reducible rfl); try simp only [Act.put, List.setIfInBounds_toArray, List.set_cons_zero, List.set_cons_succ]) | (refine lin_skip (by rfl) ?_; try simp only [Act.put, List.setIfInBounds_toArray, List.set_cons_zero, List.set_cons_succ]) | (refine lin_take3 ?_ (by rfl) (fun wx hx => ?_) ?_; rotate_left; go_simp; (with_reducible rfl); try simp only [Act.put, List.setIfInBounds_toArray, List.set_cons_zero, List.set_cons_succ]) | (refine lin_skip3 (by rfl) ?_; try simp only [Act.put, List.setIfInBounds_toArray, List.set_cons_zero, List.set_cons_succ]))
      refine lin_nil ?_
      have HX2 := Lib.hid (HX.out.trans hxd)
      clear hwd hxd C0 C1 C2 C0' C1' C2'
      go_wp2_with fail
      go_roundw
      case rel => exact ⟨k + 1, by omega, by go_num, HX2.out⟩
      case measure => simp [intOf]; omega
    · go_wp2_with fail
      go_ret
      exact ⟨rfl, HX.out⟩
def szI (x : It) : Nat := x.path.length + x.data.length
def szN (ls : List It) : Nat := (ls.map szI).sum
theorem szN_snoc {ls : List It} {k : Nat} {x : It} (h : ls[k]? = some x) : szN (ls.take (k + 1)) = szN (ls.take k) + (x.path.length + x.data.length) := by
  obtain ⟨h1, h2⟩ := List.getElem?_eq_some_iff.1 h
  rw [List.take_succ_eq_append_getElem h1, h2]
  simp [szN, szI]
theorem szN_take (ls : List It) : ∀ k, szN (ls.take k) ≤ szN ls := by
  induction ls with
  | nil => intro k; simp
  | cons x ls ih =>
    intro k
    cases k with
    | zero => simp [szN]
    | succ k => have := ih k; simp [szN] at this ⊢; omega
set_option maxRecDepth 20000 in
set_option maxHeartbeats 2000000 in
theorem beyond_any (A : Option Addr) (n c : Nat) (ls : List It) (w : World) (h1 : ItSl w A n ls) (hs : szN ls ≤ 8388608) (hn : n ≤ 1073741824) :
    Calls Tryd.prog 11 #[.slice A n c] w fun e w' => e = .returned (.bool (decide (5000 < n))) ∧ Ext w w' := by
  have H1 := Lib.hid h1
  have HS : Hid (True ∧ szN ls ≤ 8388608) := ⟨trivial, hs⟩
  clear h1 hs
  obtain ⟨bb, hbb⟩ : ∃ b, decide (5000 < n) = b := ⟨_, rfl⟩
  have Hbb := Lib.hid hbb
  rw [hbb]
  clear hbb
  go_enter Tryd.func11, Tryd.ntmps11
  go_wp2_with fail
  go_loopw [3, 4] (fun sv iv wr => ∃ k : Nat, k ≤ n ∧ iv = .int .i64 (k : Int) ∧ sv = .int .i64 (szN (ls.take k) : Int) ∧ Ext w wr) (fun _ iv _ => n - (intOf iv).toNat)
  case atStart => exact ⟨0, Nat.zero_le _, rfl, rfl, Ext.refl _⟩
  case round =>
    obtain ⟨k, hk, rfl, rfl, hx⟩ := hrel
    have HX := Lib.hid hx
    clear hx
    have hb := szN_take ls k
    obtain ⟨T, hT⟩ : ∃ T, szN (ls.take k) = T := ⟨_, rfl⟩
    have HT := Lib.hid hT
    rw [hT] at hb ⊢
    have hT8 : (T : Int) ≤ 8388608 := by have := HS.out.2; omega
    clear hT hb
    by_cases hlt : k < n
    · obtain ⟨b, off, x, D, dc, rfl, hbw, hx, c0, c1, c2, -⟩ := (H1.out.ext HX.out).at hlt
      have hsn := szN_snoc hx
      have hbn := szN_take ls (k + 1)
      rw [HT.out] at hsn
      have Hsn := Lib.hid hsn
      have hbd : T + (x.path.length + x.data.length) ≤ 8388608 := by have := HS.out.2; omega
      have C0 : ∀ wx, Ext wr wx → wx.cell? ⟨b, off + k * 3, none⟩ = some (.string (mkB x.path)) := fun wx h => (h.cell hbw).trans c0
      have C2 : ∀ wx, Ext wr wx → wx.cell? ⟨b, off + k * 3 + 2, none⟩ = some (.slice D x.data.length dc) := fun wx h => (h.cell hbw).trans c2
      have hpl : (mkB x.path).size = x.path.length := by show x.path.toArray.size = _; simp
      obtain ⟨P, hP⟩ : ∃ P, mkB x.path = P := ⟨_, rfl⟩
      rw [hP] at C0 hpl
      have hw1 : IntKind.i64.wrap ((x.path.length : Int) + (x.data.length : Int)) = (x.path.length : Int) + (x.data.length : Int) := IntWalk.i64_in _ (by omega)
      have hw2 : IntKind.i64.wrap ((T : Int) + ((x.path.length : Int) + (x.data.length : Int))) = ((T + (x.path.length + x.data.length) : Nat) : Int) := by rw [IntWalk.i64_in _ (by omega)]; omega
      clear hx c0 c1 c2 hsn hbn hP hbw
      go_wp2_with fail
      refine region_lin (fun wx => Ext wr wx) 100000 [(0, 3), (1, 3), (2, 3), (3, 3), (4, 3), (5, 0), (6, 3), (7, 3), (8, 3), (9, 3), (10, 3), (11, 0), (12, 3), (13, 3), (14, 3), (15, 3)] ?_ (by kernel_rfl) (by kernel_rfl) ?_ (fun _ _ _ _ _ h => h) ((Ext.refl _).drew) ?_
      rotate_left
      (simp only [planOps, List.mapM_cons, List.mapM_nil, List.getElem?_toArray, List.getElem?_cons_zero, List.getElem?_cons_succ, Option.map_some, Option.bind_eq_bind, Option.bind_some, Option.pure_def]; rfl)
      intro wd hwd hxd
      repeat (first | (refine lin_take ?_ (by rfl) (fun wx hx => ?_) ?_; rotate_left; go_simp; (with_reducible rfl); try simp only [Act.put, List.setIfInBounds_toArray, List.set_cons_zero, List.set_cons_succ]) | (refine lin_skip (by rfl) ?_; try simp only [Act.put, List.setIfInBounds_toArray, List.set_cons_zero, List.set_cons_succ]) | (refine lin_take3 ?_ (by rfl) (fun wx hx => ?_) ?_; rotate_left; go_simp; (with_reducible rfl); try simp only [Act.put, List.setIfInBounds_toArray, List.set_cons_zero, List.set_cons_succ]) | (refine lin_skip3 (by rfl) ?_; try simp only [Act.put, List.setIfInBounds_toArray, List.set_cons_zero, List.set_cons_succ]))
      refine lin_nil ?_
      have HX2 := Lib.hid (HX.out.trans hxd)
      clear hwd hxd C0 C2 hw1 hw2
      go_wp2_with fail
      go_roundw
      case rel => exact ⟨k + 1, by omega, by go_num, by rw [Hsn.out]; first | rfl | go_num, HX2.out⟩
      case measure => simp [intOf]; omega
    · have hT9 : ¬ (8388608 : Int) < (T : Int) := by omega
      cases bb with
      | true =>
        have h5 : (5000 : Int) < (n : Int) := by have := of_decide_eq_true Hbb.out; omega
        go_wp2_with fail
        go_ret
        exact ⟨rfl, HX.out⟩
      | false =>
        have h5 : ¬ (5000 : Int) < (n : Int) := by have := of_decide_eq_false Hbb.out; omega
        go_wp2_with fail
        go_ret
        exact ⟨rfl, HX.out⟩
end Go.Proofs.YtcpnnkkfndgpjaaDoor
