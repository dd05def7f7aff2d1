/- 'Free'. -/
import Derived.Test.YtpjgfkdnjkfnfaaL
namespace Go.Proofs.Ytpjgfkdnjkfnfaa
open Go.RowKit Go.Maps

def eqB (a b : Lk) : Bool := decide (a.who = b.who) && decide (a.pos = b.pos) && decide (a.num = b.num) && decide (a.sh = b.sh)
theorem eqB_iff {a b : Lk} : eqB a b = true ↔ a = b := by
  cases a; cases b
  simp [eqB, and_assoc]

theorem Own.cut {w : World} {e size A n c xs i} (h : Own w e size (.slice A n c) n xs) (hi : i ≤ n) (hn : 0 < n) : Own w e size (.slice A i i) i (xs.take (i * size)) := by
  have hmul : i * size ≤ n * size := Nat.mul_le_mul_right _ hi
  refine ⟨by rw [List.length_take, h.1]; omega, ?_⟩
  rcases h.2 with ⟨_, h0⟩ | ⟨g, off, cap, cur, hv, hg, hnc, hcm, hcs, ht⟩
  · omega
  · injection hv with h1 _ h3
    subst h1 h3
    have hmul2 : n * size ≤ c * size := Nat.mul_le_mul_right _ hnc
    refine .inr ⟨g, off, i, cur, rfl, hg, Nat.le_refl _, by omega, by omega, ?_⟩
    rw [← ht, List.take_take, Nat.min_eq_left hmul]

/-- Free's answer, and what it leaves. -/
def freeF (l : Lk) (H W : List Lk) : Int × List Lk × List Lk × List Lk :=
  if mayB l = false then (2, H, W, []) else match H.findIdx? (eqB · l) with
    | none => (192, H, W, [])
    | some i => let r := onF (H.eraseIdx i) W; (0, r.1, r.2.1, r.2.2)

def FreePost (ty : TypeId) (t : Nat) (F : Nat → Prop) (l : Lk) (H W : List Lk) (w : World) (e : Ending) (w' : World) : Prop :=
  ∃ tv, e = .returned (.tuple #[tv, .int .i64 (freeF l H W).1]) ∧ TabR w w' ty t F (freeF l H W).2.1 (freeF l H W).2.2.1 tv (freeF l H W).2.2.2

theorem TabR.same {w w' ty t F H W} (h : TabS w ty t F H W) (he : Ext w w') : TabR w w' ty t F H W (.slice none 0 0) [] :=
  ⟨Mod.mono he (fun _ _ f => f.elim), F, h.ext he, fun _ h => .inl h, Own.nil _ _ _, fun k h => by simp [Value.ownBlock] at h⟩

theorem TabR.after {w w4 w5 ty t F H W tv told} (h : TabR w4 w5 ty t (fun j => F j ∨ w.heap.size ≤ j) H W tv told) (hm : Mod F w w4) : TabR w w5 ty t F H W tv told := by
  obtain ⟨h1, G, h2, h3, h4, h5⟩ := h
  have hs := hm.size
  refine ⟨hm.trans h1 (fun i hi hs => hs.elim id (fun h => absurd h (by omega))), G, h2, fun k hk => ?_, h4, fun k hk => ⟨by have := (h5 k hk).1; omega, (h5 k hk).2⟩⟩
  rcases h3 k hk with (h | h) | h
  · exact .inl h
  · exact .inr h
  · right; omega

set_option maxRecDepth 20000 in
set_option maxHeartbeats 1000000 in
theorem free_call (t : Nat) (F : Nat → Prop) (H W : List Lk) (wa pa na : Int) (sa : Bool) (w : World) (hT : TabS w 55 t F H W) :
    Calls Try.prog 18 #[.pointer (some ⟨t, 0, none⟩), .agg #[.int .i64 wa, .int .i64 pa, .int .i64 na, .bool sa]] w (FreePost 55 t F ⟨wa, pa, na, sa⟩ H W w) := by
  have HT := Lib.hid hT
  obtain ⟨hv, wv, ht, hF⟩ := hT
  have e0 : Ext w (w.alloc (.cells #[.int .i64 wa, .int .i64 pa, .int .i64 na, .bool sa] 29)) := (Ext.refl _).alloc _
  have q0 : ∀ wx, Ext (w.alloc (.cells #[.int .i64 wa, .int .i64 pa, .int .i64 na, .bool sa] 29)) wx → wx.cell? ⟨w.heap.size, 0, none⟩ = some (.int .i64 wa) := fun wx h => h.cell_new 0
  have q1 : ∀ wx, Ext (w.alloc (.cells #[.int .i64 wa, .int .i64 pa, .int .i64 na, .bool sa] 29)) wx → wx.cell? ⟨w.heap.size, 1, none⟩ = some (.int .i64 pa) := fun wx h => h.cell_new 1
  have q2 : ∀ wx, Ext (w.alloc (.cells #[.int .i64 wa, .int .i64 pa, .int .i64 na, .bool sa] 29)) wx → wx.cell? ⟨w.heap.size, 2, none⟩ = some (.int .i64 na) := fun wx h => h.cell_new 2
  have q3 : ∀ wx, Ext (w.alloc (.cells #[.int .i64 wa, .int .i64 pa, .int .i64 na, .bool sa] 29)) wx → wx.cell? ⟨w.heap.size, 3, none⟩ = some (.bool sa) := fun wx h => h.cell_new 3
  have qs : ∀ wx, Ext (w.alloc (.cells #[.int .i64 wa, .int .i64 pa, .int .i64 na, .bool sa] 29)) wx → w.heap.size < wx.heap.size := fun wx h => h.lt_new
  have HtB := Lib.hid ht
  have HF := Lib.hid hF
  obtain ⟨A, ch, rfl, hnc, -⟩ := ht.held.form
  have htl := ht.lt
  have k0 : ∀ wx, Ext (w.alloc (.cells #[.int .i64 wa, .int .i64 pa, .int .i64 na, .bool sa] 29)) wx → wx.cell? ⟨t, 0, none⟩ = some (.slice A H.length ch) := fun wx h => ((e0.trans h).cell htl).trans HtB.out.cell0
  have hfew : H.length ≤ 256 := by have := ht.few; omega
  clear ht hF
  cases hm : mayB ⟨wa, pa, na, sa⟩ with
  | false =>
    have hr : Hid (freeF ⟨wa, pa, na, sa⟩ H W = (2, H, W, [])) := by show _ = _; simp [freeF, hm]
    go_enter Try.func18, Try.ntmps18
    go_wp2_with (go_at_call 29; refine (may_any _ _ _ _ _).mono ?_; rintro e w1 ⟨rfl, hb1⟩; rw [hm])
    go_ret2
    refine ⟨_, by rw [hr.out]; rfl, ?_⟩
    rw [hr.out]
    exact TabR.same HT.out (e0.trans hb1)
  | true =>
    go_enter Try.func18, Try.ntmps18
    go_wp2_with (go_at_call 29; refine (may_any _ _ _ _ _).mono ?_; rintro e w1 ⟨rfl, hb1⟩; rw [hm])
    have Hm := Lib.hid hm
    clear hm
    go_loopw [20] (fun i wr => ∃ k : Nat, k ≤ H.length ∧ i = .int .i64 k ∧ (H.take k).findIdx? (eqB · ⟨wa, pa, na, sa⟩) = none ∧ Ext (w.alloc (.cells #[.int .i64 wa, .int .i64 pa, .int .i64 na, .bool sa] 29)) wr) (fun i _ => H.length - (intOf i).toNat)
    case atStart => exact ⟨0, Nat.zero_le _, rfl, by simp, hb1⟩
    case round =>
      obtain ⟨k, hk, rfl, hpre, hx⟩ := hrel
      have Hpre := Lib.hid hpre
      clear hpre
      by_cases hlt : k < H.length
      · obtain ⟨b, off, rfl, hb, hce⟩ := (LkSl.of_own (HtB.out.held.ext (e0.trans hx))).2 (by omega)
        obtain ⟨e1, e2, e3, e4⟩ := hce k H[k] (List.getElem?_eq_getElem hlt)
        obtain ⟨x, hxe⟩ : ∃ x, H[k] = x := ⟨_, rfl⟩
        have Hx : Hid (H[k]? = some x) := by show _ = _; rw [List.getElem?_eq_getElem hlt, hxe]
        rw [hxe] at e1 e2 e3 e4
        clear hce hxe
        have r0 := q0 _ hx
        have r1 := q1 _ hx
        have r2 := q2 _ hx
        have r3 := q3 _ hx
        have hsz := qs _ hx
        go_wp2_with fail
        · have hxl : x = ⟨wa, pa, na, sa⟩ := by cases x; simp_all
          have Hxl := Lib.hid hxl
          clear hxl
          have htx : t < wr.heap.size := by have := hx.size; simp at this; omega
          have HtX : Hid (Tab wr 55 t (.slice (some ⟨b, off, none⟩) H.length ch) wv H W) := HtB.out.ext (e0.trans hx)
          have HsX : Hid (w.heap.size ≤ wr.heap.size) := (e0.trans hx).size
          have HeX : Hid (Ext w wr) := e0.trans hx
          have hne : (Value.slice (some ⟨b, off, none⟩) H.length ch).ownBlock ≠ some t := own_ne HtX.out.held HtX.out.blk (by decide)
          obtain ⟨Y, hY⟩ : ∃ Y : Obj, Y = .cells #[.int .i64 wa, .int .i64 pa, .int .i64 na, .bool sa] 29 := ⟨_, rfl⟩
          rw [← hY]
          have ey : Ext wr (wr.alloc Y) := (Ext.refl _).alloc _
          have hty : t < (wr.alloc Y).heap.size := by simp; omega
          have HtY : Hid (Tab (wr.alloc Y) 55 t (.slice (some ⟨b, off, none⟩) H.length ch) wv H W) := HtX.out.ext ey
          have k0 : ∀ wx, Mod (fun k => (Value.slice (some ⟨b, off, none⟩) H.length ch).ownBlock = some k) (wr.alloc Y) wx → wx.cell? ⟨t, 0, none⟩ = some (.slice (some ⟨b, off, none⟩) H.length ch) := fun wx h => (h.cell hty hne).trans HtY.out.cell0
          have kf : ∀ wx i, Mod (fun k => (Value.slice (some ⟨b, off, none⟩) H.length ch).ownBlock = some k) (wr.alloc Y) wx → wx.frozen? ⟨t, i, none⟩ = false := fun wx i h => (h.frozen hty hne).trans (HtY.out.frozen i)
          have hkc : k ≤ ch := by omega
          have hkc1 : k + 1 ≤ ch := by omega
          have hkh : k + 1 ≤ H.length := by omega
          have Hnex := Lib.hid hne
          clear hY q0 q1 q2 q3 qs r0 r1 r2 r3 e1 e2 e3 e4 e0 hb1 hx hsz hne ey
          have hwr : IntKind.i64.wrap ((k : Int) + 1) = (k : Int) + 1 := IntWalk.i64_in _ (by omega)
          have hp1 : (0 : Int) ≤ (k : Int) + 1 := by omega
          have hik : (k : Int) + 1 ≤ (H.length : Int) := by omega
          have htn : ((k : Int) + 1).toNat = k + 1 := by omega
          refine region_lin (fun wx => Mod (fun k => (Value.slice (some ⟨b, off, none⟩) H.length ch).ownBlock = some k) (wr.alloc Y) wx) 18 [(0, 0), (1, 0), (2, 0), (3, 0), (4, 0), (5, 0), (6, 0), (7, 0), (8, 0), (9, 0), (10, 0), (11, 0), (12, 0), (13, 0), (14, 0), (15, 1), (16, 0), (17, 0), (18, 2)] ?_ (by kernel_rfl) (by kernel_rfl) ?_ (fun _ _ _ _ _ h => h) ((Mod.refl _ _).drew) ?_
          rotate_left
          (simp only [planOps, List.mapM_cons, List.mapM_nil, List.getElem?_toArray, List.getElem?_cons_zero, List.getElem?_cons_succ, Option.map_some, Option.bind_eq_bind, Option.bind_some, Option.pure_def]; rfl)
          intro wd hwd hxd
          repeat (first | (refine lin_take ?_ (by rfl) (fun wx hx => ?_) ?_; rotate_left; go_simp; (with_reducible rfl); try simp only [Act.put, List.setIfInBounds_toArray, List.set_cons_zero, List.set_cons_succ]) | (refine lin_skip (by rfl) ?_; try simp only [Act.put, List.setIfInBounds_toArray, List.set_cons_zero, List.set_cons_succ]) | (refine lin_take3 ?_ (by rfl) (fun wx hx => ?_) ?_; rotate_left; go_simp; (with_reducible rfl); try simp only [Act.put, List.setIfInBounds_toArray, List.set_cons_zero, List.set_cons_succ]))
          clear hwr hp1 htn hik
          refine lin_run (by rfl) (fun K hK => ?_)
          obtain ⟨i, hi, hz, hs, hby⟩ := info_parts Try.info29
          have hd : Own wd 29 4 (.slice (some ⟨b, off, none⟩) H.length ch) H.length (flat H) := HtY.out.held.ext hxd
          have hcells := hd.cells rfl
          refine wp_append_own_any _ (.tmp 35) (.tmp 42) 25 rfl 29 i _ 4 32 Try.underlying25 hi hz hs hby rfl (by decide) (.slice (some ⟨b, off, none⟩) k k) k ((flat H).take (k * 4)) rfl (hd.cut (by omega) (by omega)) _ (H.length - (k + 1)) (ch - (k + 1)) ((flat H).drop ((k + 1) * 4)) rfl
            (by rw [List.length_drop, flat_length]; omega)
            (fun hp => ⟨⟨b, off + (k + 1) * 4, none⟩, by rw [if_neg (by omega)], fun j u hu => by rw [List.getElem?_drop] at hu; rw [add_off, Nat.add_assoc]; exact hcells _ _ hu⟩)
            (fun u hu => flat_one H u (List.mem_of_mem_drop hu)) (by unfold maxLen; omega) (by omega) ?_
          intro v' w3 ho hg hv'
          have hw3 := hwd.grown hg (fun k hk _ => hk)
          have hid : Hid (H.findIdx? (eqB · ⟨wa, pa, na, sa⟩) = some k) := by
            show _ = _
            have hke : H[k] = x := (List.getElem?_eq_some_iff.1 Hx.out).2
            have hsplit : H = H.take k ++ x :: H.drop (k + 1) := by rw [← hke, ← List.drop_eq_getElem_cons hlt, List.take_append_drop]
            rw [hsplit, List.findIdx?_append, Hpre.out]
            simp [List.findIdx?_cons, eqB_iff.2 Hxl.out]
            omega
          have hlen : (H.eraseIdx k).length = k + (H.length - (k + 1)) := by rw [List.length_eraseIdx_of_lt hlt]; omega
          have hflat : flat (H.eraseIdx k) = (flat H).take (k * 4) ++ (flat H).drop ((k + 1) * 4) := by
            rw [List.eraseIdx_eq_take_drop_succ, flat_append]
            have t1 : ∀ (l : List Lk) (n : Nat), (flat l).take (n * 4) = flat (l.take n) := by
              intro l
              induction l with
              | nil => intro n; simp [flat]
              | cons y l ih =>
                intro n
                cases n with
                | zero => simp [flat]
                | succ n =>
                  have e : flat (y :: l) = y.enc ++ flat l := rfl
                  have e2 : flat ((y :: l).take (n + 1)) = y.enc ++ flat (l.take n) := rfl
                  rw [e, e2, ← ih n, List.take_append]
                  have : y.enc.length = 4 := rfl
                  rw [this, List.take_of_length_le (by rw [this]; omega)]
                  congr 2
                  omega
            have t2 : ∀ (l : List Lk) (n : Nat), (flat l).drop (n * 4) = flat (l.drop n) := by
              intro l
              induction l with
              | nil => intro n; simp [flat]
              | cons y l ih =>
                intro n
                cases n with
                | zero => simp
                | succ n =>
                  have e : flat (y :: l) = y.enc ++ flat l := rfl
                  rw [e, List.drop_succ_cons, ← ih n, List.drop_append]
                  have : y.enc.length = 4 := rfl
                  rw [this, List.drop_of_length_le (by rw [this]; omega), List.nil_append]
                  congr 1
                  omega
            rw [t1, t2]
          have HO : Hid (Own w3 29 4 v' (H.eraseIdx k).length (flat (H.eraseIdx k))) := by show Own _ _ _ _ _ _; rw [hlen, hflat]; exact ho
          obtain ⟨A2, c2, rfl, -, -⟩ := ho.form
          have hset := HtY.out.set_held (w2 := w3) (v' := .slice A2 (k + (H.length - (k + 1))) c2) (H' := H.eraseIdx k) (by decide) hw3 HO.out
            (fun j hj => by
              rcases hv' with h | h
              · left; rw [h] at hj; exact hj
              · right; rw [h] at hj; injection hj with hj; have := hxd.size; omega)
            (fun l hl => HtY.out.hok l (List.mem_of_mem_eraseIdx hl)) (by have := HtY.out.few; rw [hlen]; omega)
          have Hset := Lib.hid hset
          refine hK _ _ hw3 ?_
          clear hset ho hg hv' hcells hd hlen hflat
          try simp only [Act.put, List.setIfInBounds_toArray, List.set_cons_zero, List.set_cons_succ]
          repeat (first | (refine lin_take ?_ (by rfl) (fun wx hx => ?_) ?_; rotate_left; go_simp; (with_reducible rfl); try simp only [Act.put, List.setIfInBounds_toArray, List.set_cons_zero, List.set_cons_succ]) | (refine lin_skip (by rfl) ?_; try simp only [Act.put, List.setIfInBounds_toArray, List.set_cons_zero, List.set_cons_succ]) | (refine lin_take3 ?_ (by rfl) (fun wx hx => ?_) ?_; rotate_left; go_simp; (with_reducible rfl); try simp only [Act.put, List.setIfInBounds_toArray, List.set_cons_zero, List.set_cons_succ]))
          refine lin_last (by rfl) (fun K3 hK3 => ?_)
          go_simp
          refine hK3 _ _ trivial ?_
          clear k0 kf hw3 hwd hxd
          have Hmod : Hid (Mod F w (w3.setCell ⟨t, 0, none⟩ (.slice A2 (k + (H.length - (k + 1))) c2)) ∧ TabS (w3.setCell ⟨t, 0, none⟩ (.slice A2 (k + (H.length - (k + 1))) c2)) 55 t (fun j => F j ∨ w.heap.size ≤ j) (H.eraseIdx k) W) := by
            obtain ⟨r1, r2, r3⟩ := Hset.out
            have hsy : w.heap.size ≤ (wr.alloc Y).heap.size := by have := HsX.out; simp; omega
            refine ⟨Mod.trans (S := F) (Mod.mono (HeX.out.alloc Y) (fun _ _ f => f.elim)) r3 (fun j _ hj => HF.out j hj), _, _, r1, fun j hj => ?_⟩
            rcases r2 j hj with h | h
            · exact .inl (HF.out j h)
            · right; omega
          clear Hset
          generalize w3.setCell ⟨t, 0, none⟩ (.slice A2 (k + (H.length - (k + 1))) c2) = w4 at *
          go_wp2_with (go_at_call 30; refine (on_any t _ (H.eraseIdx k) W w4 Hmod.out.2).mono ?_; rintro e w5 ⟨tv, rfl, hR⟩)
          all_goals
            go_ret2
            have hr : freeF ⟨wa, pa, na, sa⟩ H W = (0, (onF (H.eraseIdx k) W).1, (onF (H.eraseIdx k) W).2.1, (onF (H.eraseIdx k) W).2.2) := by simp [freeF, Hm.out, hid.out]
            refine ⟨tv, by rw [hr]; rfl, ?_⟩
            rw [hr]
            exact hR.after Hmod.out.1
        all_goals
          have hno : eqB x ⟨wa, pa, na, sa⟩ = false := by simp [eqB, *]
          have Hno := Lib.hid hno
          clear hno
          go_roundw
          case rel =>
            refine ⟨k + 1, by omega, by go_num, ?_, by repeat (first | assumption | exact Ext.refl _ | exact Mod.refl _ _ | refine Ext.trans ?_ (by assumption) | apply Ext.alloc | apply Ext.drew | apply Ext.drewN)⟩
            have hke : H[k] = x := (List.getElem?_eq_some_iff.1 Hx.out).2
            rw [List.take_succ_eq_append_getElem hlt, List.findIdx?_append, Hpre.out, hke]
            simp [Hno.out]
          case measure => simp [intOf]; omega
      · go_wp2_with fail
        go_ret2
        have hkn : k = H.length := by omega
        have h1 := Hpre.out
        rw [hkn, List.take_length] at h1
        have hr : freeF ⟨wa, pa, na, sa⟩ H W = (192, H, W, []) := by simp [freeF, Hm.out, h1]
        refine ⟨_, by rw [hr]; rfl, ?_⟩
        rw [hr]
        exact TabR.same HT.out (e0.trans hx)
end Go.Proofs.Ytpjgfkdnjkfnfaa
