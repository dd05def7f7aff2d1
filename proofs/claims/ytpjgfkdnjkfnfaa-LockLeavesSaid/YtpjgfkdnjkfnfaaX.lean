/- The law's own 'circle': where no way leads back it answers false. -/
import Derived.Test.YtpjgfkdnjkfnfaaV
namespace Go.Proofs.Ytpjgfkdnjkfnfaa
open Go.RowKit Go.Maps

/-- A row of 36 bools at block g. -/
def BRow (w : World) (g : Nat) (f : Nat → Bool) : Prop := ∃ cs : Array Value, w.heap[g]? = some (.cells cs 4 (0, 0)) ∧ cs.size = 36 ∧ ∀ i, i < 36 → cs[i]? = some (.bool (f i))
theorem BRow.lt {w g f} (h : BRow w g f) : g < w.heap.size := by obtain ⟨cs, h1, _⟩ := h; exact (Array.getElem?_eq_some_iff.1 h1).1
theorem BRow.cell {w g f} (h : BRow w g f) (i : Nat) (hi : i < 36) : w.cell? ⟨g, i, none⟩ = some (.bool (f i)) := by
  obtain ⟨cs, h1, _, h3⟩ := h
  rw [cell_of_row w g i cs 4 (0, 0) h1]; exact h3 i hi
theorem BRow.frozen {w g f} (h : BRow w g f) (i : Nat) : w.frozen? ⟨g, i, none⟩ = false := by
  obtain ⟨cs, h1, _⟩ := h
  unfold World.frozen?; rw [h1]; simp
theorem BRow.mod {S w w' g f} (h : BRow w g f) (hm : Mod S w w') (hs : ¬ S g) : BRow w' g f := by
  have hlt := h.lt
  obtain ⟨cs, h1, h2⟩ := h
  exact ⟨cs, (hm.block g hlt hs).trans h1, h2⟩
theorem BRow.ext {w w' g f} (h : BRow w g f) (hm : Ext w w') : BRow w' g f := h.mod hm (fun f => f)
theorem BRow.set {w g f} (h : BRow w g f) (i : Nat) (_hi : i < 36) : BRow (w.setCell ⟨g, i, none⟩ (.bool true)) g (fun j => if j = i then true else f j) := by
  obtain ⟨cs, h1, h2, h3⟩ := h
  refine ⟨cs.setIfInBounds i (.bool true), heap_setCell_at h1 _, by simpa using h2, fun j hj => ?_⟩
  by_cases hji : j = i
  · subst hji
    simp [h2, hj]
  · rw [Array.getElem?_setIfInBounds_ne (Ne.symm hji), h3 j hj]
    simp [hji]

/-- Only ways are marked. -/
def Marks (H W : List Lk) (f : Nat → Bool) : Prop := ∀ a b : Nat, a < 6 → b < 6 → f (a * 6 + b) = true → Way H W a b
theorem Marks.set {H W f} (h : Marks H W f) {i : Nat} (hi : ∀ a b : Nat, a < 6 → b < 6 → a * 6 + b = i → Way H W a b) : Marks H W (fun j => if j = i then true else f j) := by
  intro a b ha hb hf
  by_cases he : a * 6 + b = i
  · exact hi a b ha hb he
  · simp only [if_neg he] at hf
    exact h a b ha hb hf

/-- What holds at every round: nothing of w turned, and the row marks ways alone. -/
def CR (H W : List Lk) (w wr : World) : Prop := Ext w wr ∧ ∃ f, BRow wr w.heap.size f ∧ Marks H W f
theorem CR.ext {H W w a b} (h : CR H W w a) (e : Ext a b) : CR H W w b := by
  obtain ⟨h1, f, h2, h3⟩ := h
  exact ⟨h1.trans e, f, h2.ext e, h3⟩
theorem CR.set {H W w a} (h : CR H W w a) (i : Nat) (hi : i < 36) (hw : ∀ a b : Nat, a < 6 → b < 6 → a * 6 + b = i → Way H W a b) : CR H W w (a.setCell ⟨w.heap.size, i, none⟩ (.bool true)) := by
  obtain ⟨h1, f, h2, h3⟩ := h
  exact ⟨h1.setCell _ _ (Nat.le_refl _), _, h2.set i hi, h3.set hw⟩

set_option maxRecDepth 20000 in
set_option maxHeartbeats 4000000 in
theorem lawcircle_any (A C : Option Addr) (ch cw : Nat) (H W : List Lk) (w : World) (hH : LkSl w A H.length H) (hW : LkSl w C W.length W) (okH : ∀ l ∈ H, mayB l = true) (okW : ∀ l ∈ W, mayB l = true)
    (hl : H.length ≤ 256) (wl : W.length ≤ 256) (hs : Whos (fun x => 0 ≤ x ∧ x < 6) H W) (hac : ∀ a, ¬ Way H W a a) :
    Calls Try.prog 14 #[.slice A H.length ch, .slice C W.length cw, .int .i64 6] w fun e w' => e = .returned (.bool false) ∧ Ext w w' := by
  have HH := Lib.hid hH
  have HW := Lib.hid hW
  have OH := Lib.hid okH
  have OW := Lib.hid okW
  have HS := Lib.hid hs
  have HA := Lib.hid hac
  clear hH hW okH okW hs hac
  have hmk : ∀ w, (Instr.makeSlice 52 (.int .i64 36) (.int .i64 36)).run Try.prog w = .ok (.slice (some ⟨w.heap.size, 0, none⟩) 36 36) (w.alloc (.cells (Array.replicate 36 (.bool false)) 4)) := fun _ => by kernel_rfl
  have HC0 : Hid (CR H W w (w.alloc (.cells (Array.replicate 36 (.bool false)) 4))) :=
    ⟨(Ext.refl _).alloc _, (fun _ => false), ⟨_, heap_alloc_new w _, by simp, fun i hi => by simp [hi]⟩, fun a b _ _ h => by cases h⟩
  go_enter Try.func14, Try.ntmps14
  go_wp2_with fail
  go_loopw [8] (fun i wr => ∃ k : Nat, k ≤ W.length ∧ i = .int .i64 k ∧ CR H W w wr) (fun i _ => W.length - (intOf i).toNat)
  case atStart => exact ⟨0, Nat.zero_le _, rfl, HC0.out⟩
  case round =>
    obtain ⟨k, hk, rfl, hC⟩ := hrel
    have HC := Lib.hid hC
    clear hC
    by_cases hlt : k < W.length
    · obtain ⟨b, off, rfl, hb, hce⟩ := (HW.out.ext HC.out.1).2 (by omega)
      obtain ⟨e1, e2, e3, e4⟩ := hce k W[k] (List.getElem?_eq_getElem hlt)
      obtain ⟨x1, x2, x3, x4, x5, x6⟩ := (may_iff _).1 (OW.out W[k] (List.getElem_mem hlt))
      obtain ⟨y1, y2⟩ := HS.out.2 W[k] (List.getElem_mem hlt)
      obtain ⟨x, hxe⟩ : ∃ x, W[k] = x := ⟨_, rfl⟩
      have Hx : Hid (W[k]? = some x) := by show _ = _; rw [List.getElem?_eq_getElem hlt, hxe]
      rw [hxe] at e1 e2 e3 e4 x1 x2 x3 x4 x5 x6 y1 y2
      clear hce hxe e1 e2 e3 e4 x1 x2
      obtain ⟨xw, xp, xn, xs⟩ := x
      simp only at x3 x4 x5 x6 y1 y2
      obtain ⟨xa, rfl⟩ := Int.eq_ofNat_of_zero_le y1
      go_wp2_with fail
      obtain ⟨wo, rfl⟩ : ∃ wo : World, wo = wr := ⟨_, rfl⟩
      go_loopw [9] (fun i wr => ∃ j : Nat, j ≤ H.length + k ∧ i = .int .i64 j ∧ CR H W w wr) (fun i _ => H.length + k - (intOf i).toNat)
      case atStart => exact ⟨0, Nat.zero_le _, rfl, HC.out⟩
      case round =>
        obtain ⟨j, hj, rfl, hC⟩ := hrel
        have HC2 := Lib.hid hC
        clear hC
        by_cases hlt2 : j < H.length + k
        · have hce2 := ((HW.out.ext HC2.out.1).2 (by omega))
          obtain ⟨b', off', hbb, hb2, hce⟩ := hce2
          injection hbb with hbb
          injection hbb with hbb1 hbb2
          subst hbb1 hbb2
          obtain ⟨e1, e2, e3, e4⟩ := hce k _ Hx.out
          simp only at e1 e2 e3 e4
          by_cases hjn : j < H.length
          · obtain ⟨bh, oh, rfl, hbh, hch⟩ := (HH.out.ext HC2.out.1).2 (by omega)
            obtain ⟨f1, f2, f3, f4⟩ := hch j H[j] (List.getElem?_eq_getElem hjn)
            have hym := OH.out H[j] (List.getElem_mem hjn)
            obtain ⟨z1, z2⟩ := HS.out.1 H[j] (List.getElem_mem hjn)
            obtain ⟨y, hye⟩ : ∃ y, H[j] = y := ⟨_, rfl⟩
            have Hy : Hid (y ∈ H ∨ y ∈ W.take k) := .inl (by rw [← hye]; exact List.getElem_mem hjn)
            rw [hye] at f1 f2 f3 f4 hym z1 z2
            obtain ⟨v1, v2, v3, v4, v5, v6⟩ := (may_iff _).1 hym
            clear hce hch hye hym v1 v2
            obtain ⟨yw, yp, yn, ys⟩ := y
            simp only at f1 f2 f3 f4 v3 v4 v5 v6 z1 z2
            obtain ⟨ya, rfl⟩ := Int.eq_ofNat_of_zero_le z1
            have q0 : ∀ wx, Ext (wr.alloc (.cells #[.int .i64 ya, .int .i64 yp, .int .i64 yn, .bool ys] 29)) wx → wx.cell? ⟨wr.heap.size, 0, none⟩ = some (.int .i64 ya) := fun wx h => h.cell_new 0
            have q1 : ∀ wx, Ext (wr.alloc (.cells #[.int .i64 ya, .int .i64 yp, .int .i64 yn, .bool ys] 29)) wx → wx.cell? ⟨wr.heap.size, 1, none⟩ = some (.int .i64 yp) := fun wx h => h.cell_new 1
            have q2 : ∀ wx, Ext (wr.alloc (.cells #[.int .i64 ya, .int .i64 yp, .int .i64 yn, .bool ys] 29)) wx → wx.cell? ⟨wr.heap.size, 2, none⟩ = some (.int .i64 yn) := fun wx h => h.cell_new 2
            have q3 : ∀ wx, Ext (wr.alloc (.cells #[.int .i64 ya, .int .i64 yp, .int .i64 yn, .bool ys] 29)) wx → wx.cell? ⟨wr.heap.size, 3, none⟩ = some (.bool ys) := fun wx h => h.cell_new 3
            have qs : ∀ wx, Ext (wr.alloc (.cells #[.int .i64 ya, .int .i64 yp, .int .i64 yn, .bool ys] 29)) wx → wr.heap.size < wx.heap.size := fun wx h => h.lt_new
            have k0 : ∀ wx, Ext (wr.alloc (.cells #[.int .i64 ya, .int .i64 yp, .int .i64 yn, .bool ys] 29)) wx → wx.cell? ⟨b, off + k * 4, none⟩ = some (.int .i64 xa) := fun wx h => ((((Ext.refl _).alloc _).trans h).cell hb2).trans e1
            have k1 : ∀ wx, Ext (wr.alloc (.cells #[.int .i64 ya, .int .i64 yp, .int .i64 yn, .bool ys] 29)) wx → wx.cell? ⟨b, off + k * 4 + 1, none⟩ = some (.int .i64 xp) := fun wx h => ((((Ext.refl _).alloc _).trans h).cell hb2).trans e2
            have k2 : ∀ wx, Ext (wr.alloc (.cells #[.int .i64 ya, .int .i64 yp, .int .i64 yn, .bool ys] 29)) wx → wx.cell? ⟨b, off + k * 4 + 2, none⟩ = some (.int .i64 xn) := fun wx h => ((((Ext.refl _).alloc _).trans h).cell hb2).trans e3
            have k3 : ∀ wx, Ext (wr.alloc (.cells #[.int .i64 ya, .int .i64 yp, .int .i64 yn, .bool ys] 29)) wx → wx.cell? ⟨b, off + k * 4 + 3, none⟩ = some (.bool xs) := fun wx h => ((((Ext.refl _).alloc _).trans h).cell hb2).trans e4
            go_wp2_with fail
            refine region_lin (fun wx => Ext (wr.alloc (.cells #[.int .i64 ya, .int .i64 yp, .int .i64 yn, .bool ys] 29)) wx) 5 [(0, 3), (1, 3), (2, 3), (3, 0), (4, 0), (5, 2)] ?_ (by kernel_rfl) (by kernel_rfl) ?_ (fun _ _ _ _ _ h => h) ((Ext.refl _).drew) ?_
            rotate_left
            (simp only [planOps, List.mapM_cons, List.mapM_nil, List.getElem?_toArray, List.getElem?_cons_zero, List.getElem?_cons_succ, Option.map_some, Option.bind_eq_bind, Option.bind_some, Option.pure_def]; rfl)
            intro wd hwd hxd
            clear hxd
            repeat (first | (refine lin_take ?_ (by rfl) (fun wx hx => ?_) ?_; rotate_left; go_simp; (with_reducible rfl); try simp only [Act.put, List.setIfInBounds_toArray, List.set_cons_zero, List.set_cons_succ]) | (refine lin_skip (by rfl) ?_; try simp only [Act.put, List.setIfInBounds_toArray, List.set_cons_zero, List.set_cons_succ]) | (refine lin_take3 ?_ (by rfl) (fun wx hx => ?_) ?_; rotate_left; go_simp; (with_reducible rfl); try simp only [Act.put, List.setIfInBounds_toArray, List.set_cons_zero, List.set_cons_succ]))
            refine lin_last (by rfl) (fun K hK => ?_)
            go_simp
            refine (lawmeet_any _ _ _ _ _ _ _ _ _ x3 x4 (by omega) v3 v4 (by omega)).mono ?_
            rintro e w2 ⟨rfl, hx2⟩
            refine hK _ _ trivial ?_
            try simp only [Act.put, List.setIfInBounds_toArray, List.set_cons_zero, List.set_cons_succ]
            have e5 := hwd.trans hx2
            have hC5 : Hid (CR H W w w2) := (HC2.out.ext ((Ext.refl _).alloc _)).ext e5
            cases hm : meetB ⟨xa, xp, xn, xs⟩ ⟨ya, yp, yn, ys⟩ with
            | false =>
              clear hm
              go_wp2_with fail
              go_roundw
              case rel => exact ⟨j + 1, by omega, by go_num, hC5.out⟩
              case measure => simp [intOf]; omega
            | true =>
              have Hm : Hid (Edge H W xa ya) := ⟨k, _, _, Hx.out, rfl, Hy.out, hm, rfl⟩
              clear hm
              have n1 : IntKind.i64.wrap ((xa : Int) * 6) = (xa : Int) * 6 := IntWalk.i64_in _ (by omega)
              have n2 : IntKind.i64.wrap ((xa : Int) * 6 + (ya : Int)) = (xa : Int) * 6 + (ya : Int) := IntWalk.i64_in _ (by omega)
              have n3 : ((xa : Int) * 6 + (ya : Int)).toNat = xa * 6 + ya := by omega
              have n4 : 0 ≤ (xa : Int) * 6 + (ya : Int) := by omega
              have n5 : (xa : Int) * 6 + (ya : Int) < 36 := by omega
              clear hwd
              go_wp2_with fail
              refine region_lin (fun wx => Ext (wr.alloc (.cells #[.int .i64 ya, .int .i64 yp, .int .i64 yn, .bool ys] 29)) wx) 12 [(0, 3), (1, 3), (2, 3), (3, 3), (4, 3), (5, 0), (6, 3), (7, 3), (8, 3), (9, 0), (10, 3), (11, 3), (12, 2)] ?_ (by kernel_rfl) (by kernel_rfl) ?_ (fun _ _ _ _ _ h => h) (e5.drew) ?_
              rotate_left
              (simp only [planOps, List.mapM_cons, List.mapM_nil, List.getElem?_toArray, List.getElem?_cons_zero, List.getElem?_cons_succ, Option.map_some, Option.bind_eq_bind, Option.bind_some, Option.pure_def]; rfl)
              intro wd hwd hxd
              repeat (first | (refine lin_take ?_ (by rfl) (fun wx hx => ?_) ?_; rotate_left; go_simp; (with_reducible rfl); try simp only [Act.put, List.setIfInBounds_toArray, List.set_cons_zero, List.set_cons_succ]) | (refine lin_skip (by rfl) ?_; try simp only [Act.put, List.setIfInBounds_toArray, List.set_cons_zero, List.set_cons_succ]) | (refine lin_take3 ?_ (by rfl) (fun wx hx => ?_) ?_; rotate_left; go_simp; (with_reducible rfl); try simp only [Act.put, List.setIfInBounds_toArray, List.set_cons_zero, List.set_cons_succ]))
              refine lin_last (by rfl) (fun K hK => ?_)
              have hCd := HC2.out.ext (((Ext.refl _).alloc _).trans hwd)
              have Hdn : Hid (CR H W w (wd.setCell ⟨w.heap.size, xa * 6 + ya, none⟩ (.bool true))) := hCd.set _ (by omega) (fun a b ha hb hab => by
                have h1 : a = xa := by omega
                have h2 : b = ya := by omega
                subst h1 h2
                exact .one Hm.out)
              obtain ⟨-, f, hrow, -⟩ := hCd
              have c1 := hrow.cell (xa * 6 + ya) (by omega)
              have c2 := hrow.frozen (xa * 6 + ya)
              clear hrow
              go_simp
              refine hK _ _ trivial ?_
              try simp only [Act.put, List.setIfInBounds_toArray, List.set_cons_zero, List.set_cons_succ]
              generalize wd.setCell ⟨w.heap.size, xa * 6 + ya, none⟩ (.bool true) = w3 at *
              clear c1 c2 n1 n2 n3 n4 n5 hwd hxd
              go_wp2_with fail
              go_roundw
              case rel => exact ⟨j + 1, by omega, by go_num, Hdn.out⟩
              case measure => simp [intOf]; omega
          · obtain ⟨m, rfl⟩ : ∃ m, j = H.length + m := ⟨j - H.length, by omega⟩
            have hmk : m < k := by omega
            have hml : m < W.length := by omega
            obtain ⟨f1, f2, f3, f4⟩ := hce m W[m] (List.getElem?_eq_getElem hml)
            have hym := OW.out W[m] (List.getElem_mem hml)
            obtain ⟨z1, z2⟩ := HS.out.2 W[m] (List.getElem_mem hml)
            obtain ⟨y, hye⟩ : ∃ y, W[m] = y := ⟨_, rfl⟩
            have Hy : Hid (y ∈ H ∨ y ∈ W.take k) := .inr (by rw [← hye]; exact List.mem_take_iff_getElem.2 ⟨m, by omega, rfl⟩)
            rw [hye] at f1 f2 f3 f4 hym z1 z2
            obtain ⟨v1, v2, v3, v4, v5, v6⟩ := (may_iff _).1 hym
            clear hce hye hym v1 v2
            obtain ⟨yw, yp, yn, ys⟩ := y
            simp only at f1 f2 f3 f4 v3 v4 v5 v6 z1 z2
            obtain ⟨ya, rfl⟩ := Int.eq_ofNat_of_zero_le z1
            have q0 : ∀ wx, Ext (wr.alloc (.cells #[.int .i64 ya, .int .i64 yp, .int .i64 yn, .bool ys] 29)) wx → wx.cell? ⟨wr.heap.size, 0, none⟩ = some (.int .i64 ya) := fun wx h => h.cell_new 0
            have q1 : ∀ wx, Ext (wr.alloc (.cells #[.int .i64 ya, .int .i64 yp, .int .i64 yn, .bool ys] 29)) wx → wx.cell? ⟨wr.heap.size, 1, none⟩ = some (.int .i64 yp) := fun wx h => h.cell_new 1
            have q2 : ∀ wx, Ext (wr.alloc (.cells #[.int .i64 ya, .int .i64 yp, .int .i64 yn, .bool ys] 29)) wx → wx.cell? ⟨wr.heap.size, 2, none⟩ = some (.int .i64 yn) := fun wx h => h.cell_new 2
            have q3 : ∀ wx, Ext (wr.alloc (.cells #[.int .i64 ya, .int .i64 yp, .int .i64 yn, .bool ys] 29)) wx → wx.cell? ⟨wr.heap.size, 3, none⟩ = some (.bool ys) := fun wx h => h.cell_new 3
            have qs : ∀ wx, Ext (wr.alloc (.cells #[.int .i64 ya, .int .i64 yp, .int .i64 yn, .bool ys] 29)) wx → wr.heap.size < wx.heap.size := fun wx h => h.lt_new
            have k0 : ∀ wx, Ext (wr.alloc (.cells #[.int .i64 ya, .int .i64 yp, .int .i64 yn, .bool ys] 29)) wx → wx.cell? ⟨b, off + k * 4, none⟩ = some (.int .i64 xa) := fun wx h => ((((Ext.refl _).alloc _).trans h).cell hb2).trans e1
            have k1 : ∀ wx, Ext (wr.alloc (.cells #[.int .i64 ya, .int .i64 yp, .int .i64 yn, .bool ys] 29)) wx → wx.cell? ⟨b, off + k * 4 + 1, none⟩ = some (.int .i64 xp) := fun wx h => ((((Ext.refl _).alloc _).trans h).cell hb2).trans e2
            have k2 : ∀ wx, Ext (wr.alloc (.cells #[.int .i64 ya, .int .i64 yp, .int .i64 yn, .bool ys] 29)) wx → wx.cell? ⟨b, off + k * 4 + 2, none⟩ = some (.int .i64 xn) := fun wx h => ((((Ext.refl _).alloc _).trans h).cell hb2).trans e3
            have k3 : ∀ wx, Ext (wr.alloc (.cells #[.int .i64 ya, .int .i64 yp, .int .i64 yn, .bool ys] 29)) wx → wx.cell? ⟨b, off + k * 4 + 3, none⟩ = some (.bool xs) := fun wx h => ((((Ext.refl _).alloc _).trans h).cell hb2).trans e4
            go_wp2_with fail
            refine region_lin (fun wx => Ext (wr.alloc (.cells #[.int .i64 ya, .int .i64 yp, .int .i64 yn, .bool ys] 29)) wx) 5 [(0, 3), (1, 3), (2, 3), (3, 0), (4, 0), (5, 2)] ?_ (by kernel_rfl) (by kernel_rfl) ?_ (fun _ _ _ _ _ h => h) ((Ext.refl _).drew) ?_
            rotate_left
            (simp only [planOps, List.mapM_cons, List.mapM_nil, List.getElem?_toArray, List.getElem?_cons_zero, List.getElem?_cons_succ, Option.map_some, Option.bind_eq_bind, Option.bind_some, Option.pure_def]; rfl)
            intro wd hwd hxd
            clear hxd
            repeat (first | (refine lin_take ?_ (by rfl) (fun wx hx => ?_) ?_; rotate_left; go_simp; (with_reducible rfl); try simp only [Act.put, List.setIfInBounds_toArray, List.set_cons_zero, List.set_cons_succ]) | (refine lin_skip (by rfl) ?_; try simp only [Act.put, List.setIfInBounds_toArray, List.set_cons_zero, List.set_cons_succ]) | (refine lin_take3 ?_ (by rfl) (fun wx hx => ?_) ?_; rotate_left; go_simp; (with_reducible rfl); try simp only [Act.put, List.setIfInBounds_toArray, List.set_cons_zero, List.set_cons_succ]))
            refine lin_last (by rfl) (fun K hK => ?_)
            go_simp
            refine (lawmeet_any _ _ _ _ _ _ _ _ _ x3 x4 (by omega) v3 v4 (by omega)).mono ?_
            rintro e w2 ⟨rfl, hx2⟩
            refine hK _ _ trivial ?_
            try simp only [Act.put, List.setIfInBounds_toArray, List.set_cons_zero, List.set_cons_succ]
            have e5 := hwd.trans hx2
            have hC5 : Hid (CR H W w w2) := (HC2.out.ext ((Ext.refl _).alloc _)).ext e5
            cases hm : meetB ⟨xa, xp, xn, xs⟩ ⟨ya, yp, yn, ys⟩ with
            | false =>
              clear hm
              go_wp2_with fail
              go_roundw
              case rel => exact ⟨H.length + m + 1, by omega, by go_num, hC5.out⟩
              case measure => simp [intOf]; omega
            | true =>
              have Hm : Hid (Edge H W xa ya) := ⟨k, _, _, Hx.out, rfl, Hy.out, hm, rfl⟩
              clear hm
              have n1 : IntKind.i64.wrap ((xa : Int) * 6) = (xa : Int) * 6 := IntWalk.i64_in _ (by omega)
              have n2 : IntKind.i64.wrap ((xa : Int) * 6 + (ya : Int)) = (xa : Int) * 6 + (ya : Int) := IntWalk.i64_in _ (by omega)
              have n3 : ((xa : Int) * 6 + (ya : Int)).toNat = xa * 6 + ya := by omega
              have n4 : 0 ≤ (xa : Int) * 6 + (ya : Int) := by omega
              have n5 : (xa : Int) * 6 + (ya : Int) < 36 := by omega
              clear hwd
              go_wp2_with fail
              refine region_lin (fun wx => Ext (wr.alloc (.cells #[.int .i64 ya, .int .i64 yp, .int .i64 yn, .bool ys] 29)) wx) 12 [(0, 3), (1, 3), (2, 3), (3, 3), (4, 3), (5, 0), (6, 3), (7, 3), (8, 3), (9, 0), (10, 3), (11, 3), (12, 2)] ?_ (by kernel_rfl) (by kernel_rfl) ?_ (fun _ _ _ _ _ h => h) (e5.drew) ?_
              rotate_left
              (simp only [planOps, List.mapM_cons, List.mapM_nil, List.getElem?_toArray, List.getElem?_cons_zero, List.getElem?_cons_succ, Option.map_some, Option.bind_eq_bind, Option.bind_some, Option.pure_def]; rfl)
              intro wd hwd hxd
              repeat (first | (refine lin_take ?_ (by rfl) (fun wx hx => ?_) ?_; rotate_left; go_simp; (with_reducible rfl); try simp only [Act.put, List.setIfInBounds_toArray, List.set_cons_zero, List.set_cons_succ]) | (refine lin_skip (by rfl) ?_; try simp only [Act.put, List.setIfInBounds_toArray, List.set_cons_zero, List.set_cons_succ]) | (refine lin_take3 ?_ (by rfl) (fun wx hx => ?_) ?_; rotate_left; go_simp; (with_reducible rfl); try simp only [Act.put, List.setIfInBounds_toArray, List.set_cons_zero, List.set_cons_succ]))
              refine lin_last (by rfl) (fun K hK => ?_)
              have hCd := HC2.out.ext (((Ext.refl _).alloc _).trans hwd)
              have Hdn : Hid (CR H W w (wd.setCell ⟨w.heap.size, xa * 6 + ya, none⟩ (.bool true))) := hCd.set _ (by omega) (fun a b ha hb hab => by
                have h1 : a = xa := by omega
                have h2 : b = ya := by omega
                subst h1 h2
                exact .one Hm.out)
              obtain ⟨-, f, hrow, -⟩ := hCd
              have c1 := hrow.cell (xa * 6 + ya) (by omega)
              have c2 := hrow.frozen (xa * 6 + ya)
              clear hrow
              go_simp
              refine hK _ _ trivial ?_
              try simp only [Act.put, List.setIfInBounds_toArray, List.set_cons_zero, List.set_cons_succ]
              generalize wd.setCell ⟨w.heap.size, xa * 6 + ya, none⟩ (.bool true) = w3 at *
              clear c1 c2 n1 n2 n3 n4 n5 hwd hxd
              go_wp2_with fail
              go_roundw
              case rel => exact ⟨H.length + m + 1, by omega, by go_num, Hdn.out⟩
              case measure => simp [intOf]; omega
        · go_wp2_with fail
          go_roundw
          case rel => exact ⟨k + 1, by omega, by go_num, HC2.out⟩
          case measure => simp [intOf]; omega
    · have HC3 : Hid (CR H W w wr) := HC.out
      go_wp2_with fail
      go_loopw [11] (fun i wr => ∃ p : Nat, p ≤ 6 ∧ i = .int .i64 p ∧ CR H W w wr) (fun i _ => 6 - (intOf i).toNat)
      case atStart => exact ⟨0, Nat.zero_le _, rfl, HC3.out⟩
      case round =>
        obtain ⟨p, hp, rfl, hC⟩ := hrel
        have HC4 := Lib.hid hC
        clear hC
        by_cases hp6 : p < 6
        · go_wp2_with fail
          obtain ⟨wa, rfl⟩ : ∃ wa : World, wa = wr := ⟨_, rfl⟩
          go_loopw [12] (fun i wr => ∃ q : Nat, q ≤ 6 ∧ i = .int .i64 q ∧ CR H W w wr) (fun i _ => 6 - (intOf i).toNat)
          case atStart => exact ⟨0, Nat.zero_le _, rfl, HC4.out⟩
          case round =>
            obtain ⟨q, hq, rfl, hC⟩ := hrel
            have HC5 := Lib.hid hC
            clear hC
            by_cases hq6 : q < 6
            · go_wp2_with fail
              obtain ⟨wb, rfl⟩ : ∃ wb : World, wb = wr := ⟨_, rfl⟩
              go_loopw [13] (fun i wr => ∃ r : Nat, r ≤ 6 ∧ i = .int .i64 r ∧ CR H W w wr) (fun i _ => 6 - (intOf i).toNat)
              case atStart => exact ⟨0, Nat.zero_le _, rfl, HC5.out⟩
              case round =>
                obtain ⟨r, hr, rfl, hC⟩ := hrel
                have HC6 := Lib.hid hC
                clear hC
                by_cases hr6 : r < 6
                · obtain ⟨hx6, f, hrow, hmk6⟩ := HC6.out
                  have c1 := hrow.cell (q * 6 + p) (by omega)
                  have c2 := hrow.cell (p * 6 + r) (by omega)
                  have c3 := hrow.cell (q * 6 + r) (by omega)
                  have g3 := hrow.frozen (q * 6 + r)
                  have Hw1 : Hid (f (q * 6 + p) = true → Way H W q p) := hmk6 q p hq6 hp6
                  have Hw2 : Hid (f (p * 6 + r) = true → Way H W p r) := hmk6 p r hp6 hr6
                  clear hx6 hrow hmk6
                  cases f1 : f (q * 6 + p) with
                  | false =>
                    rw [f1] at c1
                    clear f1 c2 c3
                    go_wp2_with fail
                    go_roundw
                    case rel => exact ⟨r + 1, by omega, by go_num, HC6.out⟩
                    case measure => simp [intOf]; omega
                  | true =>
                    rw [f1] at c1
                    have HW1 : Hid (Way H W q p) := Hw1.out f1
                    cases f2 : f (p * 6 + r) with
                    | false =>
                      rw [f2] at c2
                      clear f1 f2 c3
                      go_wp2_with fail
                      go_roundw
                      case rel => exact ⟨r + 1, by omega, by go_num, HC6.out⟩
                      case measure => simp [intOf]; omega
                    | true =>
                      rw [f2] at c2
                      have HW2 : Hid (Way H W p r) := Hw2.out f2
                      have Hdn : Hid (CR H W w (wr.setCell ⟨w.heap.size, q * 6 + r, none⟩ (.bool true))) := HC6.out.set _ (by omega) (fun a b ha hb hab => by
                        have h1 : a = q := by omega
                        have h2 : b = r := by omega
                        subst h1 h2
                        exact HW1.out.trans HW2.out)
                      clear f1 f2
                      go_wp2_with fail
                      go_roundw
                      case rel => exact ⟨r + 1, by omega, by go_num, Hdn.out⟩
                      case measure => simp [intOf]; omega
                · go_wp2_with fail
                  go_roundw
                  case rel => exact ⟨q + 1, by omega, by go_num, HC6.out⟩
                  case measure => simp [intOf]; omega
            · go_wp2_with fail
              go_roundw
              case rel => exact ⟨p + 1, by omega, by go_num, HC5.out⟩
              case measure => simp [intOf]; omega
        · go_wp2_with fail
          go_loopw [14] (fun i wx => ∃ z : Nat, z ≤ 6 ∧ i = .int .i64 z ∧ CR H W w wx) (fun i _ => 6 - (intOf i).toNat)
          case atStart => exact ⟨0, Nat.zero_le _, rfl, HC4.out⟩
          case round =>
            obtain ⟨z, hz, rfl, hC⟩ := hrel
            have HC7 := Lib.hid hC
            clear hC
            by_cases hz6 : z < 6
            · obtain ⟨hx6, f, hrow, hmk6⟩ := HC7.out
              have c1 := hrow.cell (z * 6 + z) (by omega)
              have f1 : f (z * 6 + z) = false := by
                cases h : f (z * 6 + z) with
                | false => rfl
                | true => exact absurd (hmk6 z z hz6 hz6 h) (HA.out _)
              rw [f1] at c1
              clear hx6 hrow hmk6 f1
              go_wp2_with fail
              go_roundw
              case rel => exact ⟨z + 1, by omega, by go_num, HC7.out⟩
              case measure => simp [intOf]; omega
            · go_wp2_with fail
              go_ret
              exact ⟨rfl, HC7.out.1⟩
end Go.Proofs.Ytpjgfkdnjkfnfaa
