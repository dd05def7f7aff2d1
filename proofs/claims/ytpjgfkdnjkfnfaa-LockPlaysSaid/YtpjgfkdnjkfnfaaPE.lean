/- The document's table: Free. -/
import Derived.Test.YtpjgfkdnjkfnfaaPD
namespace Go.Proofs.Ytpjgfkdnjkfnfaa
open Go.RowKit Go.Maps

theorem flat_take (l : List Lk) : ∀ n : Nat, (flat l).take (n * 4) = flat (l.take n) := by
  induction l with
  | nil => intro n; simp [flat]
  | cons y l ih =>
    intro n
    cases n with
    | zero => simp [flat]
    | succ n =>
      have e : flat (y :: l) = y.enc ++ flat l := rfl
      have e2 : flat ((y :: l).take (n + 1)) = y.enc ++ flat (l.take n) := rfl
      rw [e, e2, ← ih n, List.take_append]
      have : y.enc.length = 4 := rfl
      rw [this, List.take_of_length_le (by rw [this]; omega)]
      congr 2
      omega
theorem flat_drop (l : List Lk) : ∀ n : Nat, (flat l).drop (n * 4) = flat (l.drop n) := by
  induction l with
  | nil => intro n; simp [flat]
  | cons y l ih =>
    intro n
    cases n with
    | zero => simp
    | succ n =>
      have e : flat (y :: l) = y.enc ++ flat l := rfl
      rw [e, List.drop_succ_cons, ← ih n, List.drop_append]
      have : y.enc.length = 4 := rfl
      rw [this, List.drop_of_length_le (by rw [this]; omega), List.nil_append]
      congr 1
      omega
theorem flat_erase (H : List Lk) (k : Nat) : flat (H.eraseIdx k) = flat (H.take k) ++ flat (H.drop (k + 1)) := by
  rw [List.eraseIdx_eq_take_drop_succ, flat_append]
theorem Own.empty (w : World) (e : TypeId) (size : Nat) : Own (w.alloc (.cells #[] e)) e size (.slice (some ⟨w.heap.size, 0, none⟩) 0 0) 0 [] :=
  ⟨by simp, .inr ⟨w.heap.size, 0, 0, #[], rfl, heap_alloc_new w _, Nat.le_refl _, by unfold maxLen; omega, by simp, by simp⟩⟩
theorem eraseIdx_length' {H : List Lk} {k : Nat} (h : k < H.length) : (H.eraseIdx k).length = k + (H.length - (k + 1)) := by rw [List.length_eraseIdx_of_lt h]; omega

set_option maxRecDepth 20000 in
set_option maxHeartbeats 1000000 in
theorem reffree_call (t : Nat) (F : Nat → Prop) (H W : List Lk) (wa pa na : Int) (sa : Bool) (w : World) (hT : TabS w 49 t F H W) :
    Calls Try.prog 22 #[.pointer (some ⟨t, 0, none⟩), .agg #[.int .i64 wa, .int .i64 pa, .int .i64 na, .bool sa]] w (FreePost 49 t F ⟨wa, pa, na, sa⟩ H W w) := by
  have HT := Lib.hid hT
  obtain ⟨hv, wv, ht, hF⟩ := hT
  have e0 : Ext w (w.alloc (.cells #[.int .i64 wa, .int .i64 pa, .int .i64 na, .bool sa] 29)) := (Ext.refl _).alloc _
  have q0 : ∀ wx, Ext (w.alloc (.cells #[.int .i64 wa, .int .i64 pa, .int .i64 na, .bool sa] 29)) wx → wx.cell? ⟨w.heap.size, 0, none⟩ = some (.int .i64 wa) := fun wx h => h.cell_new 0
  have q1 : ∀ wx, Ext (w.alloc (.cells #[.int .i64 wa, .int .i64 pa, .int .i64 na, .bool sa] 29)) wx → wx.cell? ⟨w.heap.size, 1, none⟩ = some (.int .i64 pa) := fun wx h => h.cell_new 1
  have q2 : ∀ wx, Ext (w.alloc (.cells #[.int .i64 wa, .int .i64 pa, .int .i64 na, .bool sa] 29)) wx → wx.cell? ⟨w.heap.size, 2, none⟩ = some (.int .i64 na) := fun wx h => h.cell_new 2
  have q3 : ∀ wx, Ext (w.alloc (.cells #[.int .i64 wa, .int .i64 pa, .int .i64 na, .bool sa] 29)) wx → wx.cell? ⟨w.heap.size, 3, none⟩ = some (.bool sa) := fun wx h => h.cell_new 3
  have qs : ∀ wx, Ext (w.alloc (.cells #[.int .i64 wa, .int .i64 pa, .int .i64 na, .bool sa] 29)) wx → w.heap.size < wx.heap.size := fun wx h => h.lt_new
  have HtB := Lib.hid ht
  have HF := Lib.hid hF
  obtain ⟨A, ch, rfl, hnc, -⟩ := ht.held.form
  have htl := ht.lt
  have hfew : H.length ≤ 256 := by have := ht.few; omega
  clear ht hF
  cases hm : mayB ⟨wa, pa, na, sa⟩ with
  | false =>
    have hr : Hid (freeF ⟨wa, pa, na, sa⟩ H W = (2, H, W, [])) := by show _ = _; simp [freeF, hm]
    go_enter Try.func22, Try.ntmps22
    go_wp2_with (go_at_call 34; refine (refmay_any _ _ _ _ _).mono ?_; rintro e w1 ⟨rfl, hb1⟩; rw [hm])
    go_ret2
    refine ⟨_, by rw [hr.out]; rfl, ?_⟩
    rw [hr.out]
    exact TabR.same HT.out (e0.trans hb1)
  | true =>
    go_enter Try.func22, Try.ntmps22
    go_wp2_with (go_at_call 34; refine (refmay_any _ _ _ _ _).mono ?_; rintro e w1 ⟨rfl, hb1⟩; rw [hm])
    have Hm := Lib.hid hm
    clear hm
    go_loopw [6] (fun i wr => ∃ k : Nat, k ≤ H.length ∧ i = .int .i64 k ∧ (H.take k).findIdx? (eqB · ⟨wa, pa, na, sa⟩) = none ∧ Ext (w.alloc (.cells #[.int .i64 wa, .int .i64 pa, .int .i64 na, .bool sa] 29)) wr) (fun i _ => H.length - (intOf i).toNat)
    case atStart => exact ⟨0, Nat.zero_le _, rfl, by simp, hb1⟩
    case round =>
      obtain ⟨k, hk, rfl, hpre, hx⟩ := hrel
      have Hpre := Lib.hid hpre
      clear hpre
      have HeX : Hid (Ext w wr) := e0.trans hx
      have c0 : wr.cell? ⟨t, 0, none⟩ = some (.slice A H.length ch) := (HeX.out.cell htl).trans HtB.out.cell0
      by_cases hlt : k < H.length
      · obtain ⟨b, off, rfl, hb, hce⟩ := (LkSl.of_own (HtB.out.held.ext (e0.trans hx))).2 (by omega)
        obtain ⟨e1, e2, e3, e4⟩ := hce k H[k] (List.getElem?_eq_getElem hlt)
        obtain ⟨x, hxe⟩ : ∃ x, H[k] = x := ⟨_, rfl⟩
        have Hx : Hid (H[k]? = some x) := by show _ = _; rw [List.getElem?_eq_getElem hlt, hxe]
        rw [hxe] at e1 e2 e3 e4
        have y0 : ∀ wx, Ext wr wx → wx.cell? ⟨b, off + k * 4, none⟩ = some (.int .i64 x.who) := fun wx h => h.cell_some e1
        have y1 : ∀ wx, Ext wr wx → wx.cell? ⟨b, off + k * 4 + 1, none⟩ = some (.int .i64 x.pos) := fun wx h => h.cell_some e2
        have y2 : ∀ wx, Ext wr wx → wx.cell? ⟨b, off + k * 4 + 2, none⟩ = some (.int .i64 x.num) := fun wx h => h.cell_some e3
        have y3 : ∀ wx, Ext wr wx → wx.cell? ⟨b, off + k * 4 + 3, none⟩ = some (.bool x.sh) := fun wx h => h.cell_some e4
        have r0 : ∀ wx, Ext wr wx → wx.cell? ⟨w.heap.size, 0, none⟩ = some (.int .i64 wa) := fun wx h => q0 _ (hx.trans h)
        have r1 : ∀ wx, Ext wr wx → wx.cell? ⟨w.heap.size, 1, none⟩ = some (.int .i64 pa) := fun wx h => q1 _ (hx.trans h)
        have r2 : ∀ wx, Ext wr wx → wx.cell? ⟨w.heap.size, 2, none⟩ = some (.int .i64 na) := fun wx h => q2 _ (hx.trans h)
        have r3 : ∀ wx, Ext wr wx → wx.cell? ⟨w.heap.size, 3, none⟩ = some (.bool sa) := fun wx h => q3 _ (hx.trans h)
        have k0 : ∀ wx, Ext wr wx → wx.cell? ⟨t, 0, none⟩ = some (.slice (some ⟨b, off, none⟩) H.length ch) := fun wx h => h.cell_some c0
        clear hce hxe e1 e2 e3 e4
        go_wp2_with fail
        refine region_lin (fun wx => Ext wr wx) 100000 [(0, 3), (1, 3), (2, 3), (3, 0), (4, 3), (5, 3), (6, 0), (7, 0), (8, 3)] ?_ (by kernel_rfl) (by kernel_rfl) ?_ (fun _ _ _ _ _ h => h) ((Ext.refl _).drew) ?_
        rotate_left
        (simp only [planOps, List.mapM_cons, List.mapM_nil, List.getElem?_toArray, List.getElem?_cons_zero, List.getElem?_cons_succ, Option.map_some, Option.bind_eq_bind, Option.bind_some, Option.pure_def]; rfl)
        intro wd hwd hxd
        repeat (first | (refine lin_take ?_ (by rfl) (fun wx hx => ?_) ?_; rotate_left; go_simp; (with_reducible rfl); try simp only [Act.put, List.setIfInBounds_toArray, List.set_cons_zero, List.set_cons_succ]) | (refine lin_skip (by rfl) ?_; try simp only [Act.put, List.setIfInBounds_toArray, List.set_cons_zero, List.set_cons_succ]) | (refine lin_take3 ?_ (by rfl) (fun wx hx => ?_) ?_; rotate_left; go_simp; (with_reducible rfl); try simp only [Act.put, List.setIfInBounds_toArray, List.set_cons_zero, List.set_cons_succ]))
        refine lin_take3 (.bool (eqB x ⟨wa, pa, na, sa⟩)) (by rfl) (fun wx hx => ?_) ?_
        · go_simp
          by_cases h1 : x.who = wa <;> by_cases h2 : x.pos = pa <;> by_cases h3 : x.num = na <;> by_cases h4 : x.sh = sa <;> simp [eqB, h1, h2, h3, h4]
        try simp only [Act.put, List.setIfInBounds_toArray, List.set_cons_zero, List.set_cons_succ]
        refine lin_nil ?_
        have c0' := k0 _ hwd
        clear y0 y1 y2 y3 r0 r1 r2 r3 hxd c0
        cases hq : eqB x ⟨wa, pa, na, sa⟩ with
        | true =>
          have hxl := eqB_iff.1 hq
          have Hxl := Lib.hid hxl
          clear hxl hq
          have kd : ∀ wx, Ext wd wx → wx.cell? ⟨t, 0, none⟩ = some (.slice (some ⟨b, off, none⟩) H.length ch) := fun wx h => k0 _ (hwd.trans h)
          have Hk0 : Hid (∀ wx, Ext wd wx → wx.cell? ⟨t, 0, none⟩ = some (.slice (some ⟨b, off, none⟩) H.length ch)) := kd
          clear k0 hx hb1 q0 q1 q2 q3 qs
          have hkc : k ≤ ch := by omega
          have hkc1 : k + 1 ≤ ch := by omega
          have hkh : k + 1 ≤ H.length := by omega
          have HtD : Hid (Tab wd 49 t (.slice (some ⟨b, off, none⟩) H.length ch) wv H W) := HtB.out.ext (HeX.out.trans hwd)
          have htd : t < wd.heap.size := HtD.out.lt
          have e1 : Ext wd (wd.alloc (.cells #[] 29)) := (Ext.refl _).alloc _
          have k1 := kd _ e1
          obtain ⟨i, hi, hz, hs, hby⟩ := info_parts Try.info29
          have hc1 : Hid (∀ j u, ((flat H).take (k * 4))[j]? = some u → (wd.alloc (.cells #[] 29)).cell? ((⟨b, off, none⟩ : Addr).add j) = some u) := fun j u hu => by
            rw [List.getElem?_take] at hu
            split at hu
            · rw [add_off]; exact (HtD.out.held.ext e1).cells rfl _ _ hu
            · cases hu
          go_wp2_with (at_builtin; refine wpList_append_own_any _ rfl (.tmp 31) (.tmp 37) 25 rfl 29 i _ 4 32 Try.underlying25 hi hz hs hby rfl (by decide) (.slice (some ⟨wd.heap.size, 0, none⟩) 0 0) 0 [] rfl (Own.empty wd 29 4) (some ⟨b, off, none⟩) k ch ((flat H).take (k * 4)) rfl (by rw [List.length_take, flat_length]; omega) (fun hp => ⟨⟨b, off, none⟩, rfl, hc1.out⟩) (fun u hu => flat_one H u (List.mem_of_mem_take hu)) (by unfold maxLen; omega) (by omega) ?_)
          intro v1 w3 ho hg hv'
          rw [flat_take] at ho
          have hx3 : Ext wd w3 := e1.grown hg (fun k h => by simp [Value.ownBlock] at h; omega)
          have Hv1 : Hid (∀ j, v1.ownBlock = some j → wd.heap.size ≤ j) := fun j hj => by
            rcases hv' with h | h
            · rw [h] at hj; simp [Value.ownBlock] at hj; omega
            · rw [h] at hj; injection hj with hj; omega
          have HO1 := Lib.hid ho
          have Hx3 := Lib.hid hx3
          have htd3 : t < w3.heap.size := by have := hx3.size; omega
          have hwr : IntKind.i64.wrap ((k : Int) + 1) = (k : Int) + 1 := IntWalk.i64_in _ (by omega)
          have hp1 : (0 : Int) ≤ (k : Int) + 1 := by omega
          have hik : (k : Int) + 1 ≤ (H.length : Int) := by omega
          have htn : ((k : Int) + 1).toNat = k + 1 := by omega
          have k3 := Hk0.out w3 hx3
          obtain ⟨A1, c1, rfl, -, -⟩ := ho.form
          clear ho hg hv' k1 kd e1 hx3
          have hc2 : Hid (∀ j u, ((flat H).drop ((k + 1) * 4))[j]? = some u → w3.cell? ((⟨b, off + (k + 1) * 4, none⟩ : Addr).add j) = some u) := fun j u hu => by
            rw [List.getElem?_drop] at hu
            rw [add_off, Nat.add_assoc]
            exact (HtD.out.held.ext Hx3.out).cells rfl _ _ hu
          have f3 := (HtD.out.ext Hx3.out).frozen 0
          go_wp2_with (at_builtin; refine wpList_append_own_any _ rfl (.tmp 40) (.tmp 47) 25 rfl 29 i _ 4 32 Try.underlying25 hi hz hs hby rfl (by decide) (.slice A1 k c1) k (flat (H.take k)) rfl HO1.out _ (H.length - (k + 1)) (ch - (k + 1)) ((flat H).drop ((k + 1) * 4)) rfl (by rw [List.length_drop, flat_length]; omega) (fun hp => ⟨⟨b, off + (k + 1) * 4, none⟩, by rw [if_neg (by omega)], hc2.out⟩) (fun u hu => flat_one H u (List.mem_of_mem_drop hu)) (by unfold maxLen; omega) (by omega) ?_)
          all_goals
            intro v2 w4 ho hg hv'
            rw [flat_drop, ← flat_erase, ← eraseIdx_length' hlt] at ho
            have hx4 : Ext wd w4 := Hx3.out.grown hg (fun j h => Hv1.out j h)
            have Hv2 : Hid (∀ j, v2.ownBlock = some j → wd.heap.size ≤ j) := fun j hj => by
              rcases hv' with h | h
              · exact Hv1.out j (h ▸ hj)
              · rw [h] at hj; injection hj with hj; have := Hx3.out.size; omega
            have hset := HtD.out.set_held (w2 := w4) (v' := v2) (H' := H.eraseIdx k) (by decide) (Mod.mono hx4 (fun _ _ f => f.elim)) ho (fun j hj => .inr (Hv2.out j hj))
              (fun l hl => HtD.out.hok l (List.mem_of_mem_eraseIdx hl)) (by have := HtD.out.few; rw [eraseIdx_length' hlt]; omega)
            have Hset := Lib.hid hset
            have c4 := Hk0.out w4 hx4
            have f4 := (HtD.out.ext hx4).frozen 0
            obtain ⟨A2, c2, rfl, -, -⟩ := ho.form
            clear ho hg hv' hset k3 f3 hwr hp1 hik htn
            go_wp2_with fail
            have Hmod : Hid (Mod F w (w4.setCell ⟨t, 0, none⟩ (.slice A2 (H.eraseIdx k).length c2)) ∧ TabS (w4.setCell ⟨t, 0, none⟩ (.slice A2 (H.eraseIdx k).length c2)) 49 t (fun j => F j ∨ w.heap.size ≤ j) (H.eraseIdx k) W) := by
              obtain ⟨r1, r2, r3⟩ := Hset.out
              have hsy : w.heap.size ≤ wd.heap.size := (HeX.out.trans hwd).size
              refine ⟨Mod.trans (S := F) (Mod.mono (HeX.out.trans hwd) (fun _ _ f => f.elim)) r3 (fun j _ hj => HF.out j hj), _, _, r1, fun j hj => ?_⟩
              rcases r2 j hj with h | h
              · exact .inl (HF.out j h)
              · right; omega
            have hid : Hid (H.findIdx? (eqB · ⟨wa, pa, na, sa⟩) = some k) := by
              show _ = _
              have hke : H[k] = x := (List.getElem?_eq_some_iff.1 Hx.out).2
              have hsplit : H = H.take k ++ x :: H.drop (k + 1) := by rw [← hke, ← List.drop_eq_getElem_cons hlt, List.take_append_drop]
              rw [hsplit, List.findIdx?_append, Hpre.out]
              simp [List.findIdx?_cons, eqB_iff.2 Hxl.out]
              omega
            clear Hset c4 f4 hx4
            generalize w4.setCell ⟨t, 0, none⟩ (.slice A2 (H.eraseIdx k).length c2) = w5 at *
            go_wp2_with (go_at_call 35; refine (refon_any t _ (H.eraseIdx k) W w5 Hmod.out.2).mono ?_; rintro e w6 ⟨tv, rfl, hR⟩)
            all_goals
              go_ret2
              have hr : freeF ⟨wa, pa, na, sa⟩ H W = (0, (onF (H.eraseIdx k) W).1, (onF (H.eraseIdx k) W).2.1, (onF (H.eraseIdx k) W).2.2) := by simp [freeF, Hm.out, hid.out]
              refine ⟨tv, by rw [hr]; rfl, ?_⟩
              rw [hr]
              exact hR.after Hmod.out.1
        | false =>
          have Hno := Lib.hid hq
          clear hq
          go_wp2_with fail
          go_roundw
          case rel =>
            refine ⟨k + 1, by omega, by go_num, ?_, hx.trans hwd⟩
            have hke : H[k] = x := (List.getElem?_eq_some_iff.1 Hx.out).2
            rw [List.take_succ_eq_append_getElem hlt, List.findIdx?_append, Hpre.out, hke]
            simp [Hno.out]
          case measure => simp [intOf]; omega
      · go_wp2_with fail
        go_ret2
        have hkn : k = H.length := by omega
        have h1 := Hpre.out
        rw [hkn, List.take_length] at h1
        have hr : freeF ⟨wa, pa, na, sa⟩ H W = (192, H, W, []) := by simp [freeF, Hm.out, h1]
        refine ⟨_, by rw [hr]; rfl, ?_⟩
        rw [hr]
        exact TabR.same HT.out HeX.out
end Go.Proofs.Ytpjgfkdnjkfnfaa
