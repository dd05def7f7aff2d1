/- beyond: more than 2^23 bytes, or more than 5000 items: for all items. -/
import Derived.Test.YtcpnnkkfndgpjaaDoorFC
namespace Go.Proofs.YtcpnnkkfndgpjaaDoor
open Go.RowKit

set_option maxRecDepth 20000 in
set_option maxHeartbeats 2000000 in
theorem beyond_all (A : Option Addr) (n c : Nat) (ls : List It) (w : World) (h1 : ItSl w A n ls) (hb : ∀ x ∈ ls, x.path.length < 140737488355328 ∧ x.data.length < 140737488355328) (hn : n < 140737488355328) :
    Calls Tryd.prog 11 #[.slice A n c] w fun e w' => e = .returned (.bool (decide (8388608 < szN ls ∨ 5000 < n))) ∧ Ext w w' := by
  have H1 := Lib.hid h1
  have HB := Lib.hid hb
  have Hnl := Lib.hid h1.1
  have HT0 := Lib.hid (szN_take ls)
  clear h1 hb
  obtain ⟨bb, hbb⟩ : ∃ b, decide (8388608 < szN ls ∨ 5000 < n) = b := ⟨_, rfl⟩
  have Hbb := Lib.hid hbb
  rw [hbb]
  clear hbb
  go_enter Tryd.func11, Tryd.ntmps11
  go_wp2_with fail
  go_loopw [3, 4] (fun sv iv wr => ∃ k : Nat, k ≤ n ∧ iv = .int .i64 (k : Int) ∧ sv = .int .i64 (szN (ls.take k) : Int) ∧ (True ∧ szN (ls.take k) ≤ 281474985099264) ∧ Ext w wr) (fun _ iv _ => n - (intOf iv).toNat)
  case atStart => exact ⟨0, Nat.zero_le _, rfl, rfl, ⟨trivial, Nat.zero_le _⟩, Ext.refl _⟩
  case round =>
    obtain ⟨k, hk, rfl, rfl, hTl, hx⟩ := hrel
    have HX := Lib.hid hx
    clear hx
    obtain ⟨T, hT⟩ : ∃ T, szN (ls.take k) = T := ⟨_, rfl⟩
    have HT := Lib.hid hT
    rw [hT] at hTl ⊢
    have HTl := Lib.hid hTl
    clear hT hTl
    by_cases hlt : k < n
    · by_cases hT8n : T ≤ 8388608
      · have hT8 : (T : Int) ≤ 8388608 := by omega
        obtain ⟨b, off, x, D, dc, rfl, hbw, hx, c0, c1, c2, -⟩ := (H1.out.ext HX.out).at hlt
        have hsn := szN_snoc hx
        have hbx := HB.out _ (List.mem_of_getElem? hx)
        rw [HT.out] at hsn
        have Hsn := Lib.hid hsn
        obtain ⟨hb1, hb2⟩ := hbx
        have C0 : ∀ wx, Ext wr wx → wx.cell? ⟨b, off + k * 3, none⟩ = some (.string (mkB x.path)) := fun wx h => (h.cell hbw).trans c0
        have C2 : ∀ wx, Ext wr wx → wx.cell? ⟨b, off + k * 3 + 2, none⟩ = some (.slice D x.data.length dc) := fun wx h => (h.cell hbw).trans c2
        have hpl : (mkB x.path).size = x.path.length := by show x.path.toArray.size = _; simp
        obtain ⟨P, hP⟩ : ∃ P, mkB x.path = P := ⟨_, rfl⟩
        rw [hP] at C0 hpl
        have hw1 : IntKind.i64.wrap ((x.path.length : Int) + (x.data.length : Int)) = (x.path.length : Int) + (x.data.length : Int) := IntWalk.i64_in _ (by omega)
        have hw2 : IntKind.i64.wrap ((T : Int) + ((x.path.length : Int) + (x.data.length : Int))) = ((T + (x.path.length + x.data.length) : Nat) : Int) := by rw [IntWalk.i64_in _ (by omega)]; omega
        clear hx c0 c1 c2 hsn hP hbw
        go_wp2_with fail
        refine region_lin (fun wx => Ext wr wx) 100000 [(0, 3), (1, 3), (2, 3), (3, 3), (4, 3), (5, 0), (6, 3), (7, 3), (8, 3), (9, 3), (10, 3), (11, 0), (12, 3), (13, 3), (14, 3), (15, 3)] ?_ (by kernel_rfl) (by kernel_rfl) ?_ (fun _ _ _ _ _ h => h) ((Ext.refl _).drew) ?_
        rotate_left
        (simp only [planOps, List.mapM_cons, List.mapM_nil, List.getElem?_toArray, List.getElem?_cons_zero, List.getElem?_cons_succ, Option.map_some, Option.bind_eq_bind, Option.bind_some, Option.pure_def]; rfl)
        intro wd hwd hxd
        repeat (first | (refine lin_take ?_ (by rfl) (fun wx hx => ?_) ?_; rotate_left; go_simp; (with_reducible rfl); try simp only [Act.put, List.setIfInBounds_toArray, List.set_cons_zero, List.set_cons_succ]) | (refine lin_skip (by rfl) ?_; try simp only [Act.put, List.setIfInBounds_toArray, List.set_cons_zero, List.set_cons_succ]) | (refine lin_take3 ?_ (by rfl) (fun wx hx => ?_) ?_; rotate_left; go_simp; (with_reducible rfl); try simp only [Act.put, List.setIfInBounds_toArray, List.set_cons_zero, List.set_cons_succ]) | (refine lin_skip3 (by rfl) ?_; try simp only [Act.put, List.setIfInBounds_toArray, List.set_cons_zero, List.set_cons_succ]))
        refine lin_nil ?_
        have HX2 := Lib.hid (HX.out.trans hxd)
        clear hwd hxd C0 C2 hw1 hw2
        go_wp2_with fail
        go_roundw
        case rel => exact ⟨k + 1, by omega, by go_num, by rw [Hsn.out]; first | rfl | go_num, ⟨trivial, by rw [Hsn.out]; omega⟩, HX2.out⟩
        case measure => simp [intOf]; omega
      · have hT8 : ¬ (T : Int) ≤ 8388608 := by omega
        have hT9 : (8388608 : Int) < (T : Int) := by omega
        have hbt : bb = true := by rw [← Hbb.out]; exact decide_eq_true (.inl (by have := HT0.out k; have := HT.out; omega))
        subst hbt
        go_wp2_with fail
        go_ret
        exact ⟨rfl, HX.out⟩
    · have hTe : szN ls = T := by rw [← HT.out, List.take_of_length_le (by have := Hnl.out; omega)]
      by_cases hT8n : T ≤ 8388608
      · have hT8 : (T : Int) ≤ 8388608 := by omega
        have hT9 : ¬ (8388608 : Int) < (T : Int) := by omega
        cases bb with
        | true =>
          have h5 : (5000 : Int) < (n : Int) := by have := of_decide_eq_true Hbb.out; omega
          clear hTe hT8n
          go_wp2_with fail
          go_ret
          exact ⟨rfl, HX.out⟩
        | false =>
          have h5 : ¬ (5000 : Int) < (n : Int) := by have := of_decide_eq_false Hbb.out; omega
          clear hTe hT8n
          go_wp2_with fail
          go_ret
          exact ⟨rfl, HX.out⟩
      · have hT8 : ¬ (T : Int) ≤ 8388608 := by omega
        have hT9 : (8388608 : Int) < (T : Int) := by omega
        have hbt : bb = true := by rw [← Hbb.out]; exact decide_eq_true (.inl (by omega))
        subst hbt
        clear hTe hT8n
        go_wp2_with fail
        go_ret
        exact ⟨rfl, HX.out⟩
end Go.Proofs.YtcpnnkkfndgpjaaDoor
