/- Tables of locks; the contracts of check, free, Try. -/
import Derived.Test.YtpjgfkdnjkfnfaaA
namespace Go.Proofs.Ytpjgfkdnjkfnfaa
open Go.RowKit

/-- A table at block t: the locks that are held, those that wait. -/
structure Tab (w : World) (ty : TypeId) (t : Nat) (hv wv : Value) (H W : List Lk) : Prop where
  blk : w.heap[t]? = some (.cells #[hv, wv] ty (0, 0))
  held : Own w 29 4 hv H.length (flat H)
  waits : Own w 29 4 wv W.length (flat W)
  apart : ∀ k, hv.ownBlock = some k → wv.ownBlock ≠ some k
  hok : ∀ l ∈ H, mayB l = true
  wok : ∀ l ∈ W, mayB l = true
  few : H.length + W.length ≤ 256

/-- The blocks of a table. -/
def Foot (t : Nat) (hv wv : Value) (k : Nat) : Prop := k = t ∨ hv.ownBlock = some k ∨ wv.ownBlock = some k

theorem Tab.mod {S w w' ty t hv wv H W} (h : Tab w ty t hv wv H W) (hm : Mod S w w') (hs : ∀ k, Foot t hv wv k → ¬ S k) : Tab w' ty t hv wv H W where
  blk := by
    have hlt : t < w.heap.size := (Array.getElem?_eq_some_iff.1 h.blk).1
    rw [hm.block t hlt (hs t (.inl rfl))]; exact h.blk
  held := h.held.mod hm fun k hk => hs k (.inr (.inl hk))
  waits := h.waits.mod hm fun k hk => hs k (.inr (.inr hk))
  apart := h.apart
  hok := h.hok
  wok := h.wok
  few := h.few
theorem Tab.ext {w w' ty t hv wv H W} (h : Tab w ty t hv wv H W) (hm : Ext w w') : Tab w' ty t hv wv H W := h.mod hm (fun _ _ f => f)
theorem Tab.lt {w ty t hv wv H W} (h : Tab w ty t hv wv H W) : t < w.heap.size := (Array.getElem?_eq_some_iff.1 h.blk).1
theorem Tab.cell0 {w ty t hv wv H W} (h : Tab w ty t hv wv H W) : w.cell? ⟨t, 0, none⟩ = some hv := cell_of_row w t 0 _ ty (0, 0) h.blk
theorem Tab.cell1 {w ty t hv wv H W} (h : Tab w ty t hv wv H W) : w.cell? ⟨t, 1, none⟩ = some wv := cell_of_row w t 1 _ ty (0, 0) h.blk
theorem Tab.frozen {w ty t hv wv H W} (h : Tab w ty t hv wv H W) (i : Nat) : w.frozen? ⟨t, i, none⟩ = false := by
  unfold World.frozen?
  rw [h.blk]
  simp

theorem check_nil (wa pa na : Int) (sa : Bool) (w : World) :
    Calls Try.prog 26 #[.pointer none, .agg #[.int .i64 wa, .int .i64 pa, .int .i64 na, .bool sa]] w fun e w' => e = .returned (.int .i64 1) ∧ Ext w w' := by
  go_enter Try.func26, Try.ntmps26
  go_wp2
  go_ret
  exact ⟨rfl, (Ext.refl _).alloc _⟩

def checkF (l : Lk) (H W : List Lk) : Int := if mayB l = false then 2 else if 256 ≤ H.length + W.length then 4 else 0

set_option maxRecDepth 20000 in
theorem check_any (t : Nat) (ty : TypeId) (hv wv : Value) (H W : List Lk) (wa pa na : Int) (sa : Bool) (w : World) (ht : Tab w ty t hv wv H W) :
    Calls Try.prog 26 #[.pointer (some ⟨t, 0, none⟩), .agg #[.int .i64 wa, .int .i64 pa, .int .i64 na, .bool sa]] w
      fun e w' => e = .returned (.int .i64 (checkF ⟨wa, pa, na, sa⟩ H W)) ∧ Ext w w' := by
  obtain ⟨A, ch, rfl, -, -⟩ := ht.held.form
  obtain ⟨C, cw, rfl, -, -⟩ := ht.waits.form
  have f := ht.few
  have htl := ht.lt
  have c0 := ht.cell0
  have c1 := ht.cell1
  clear ht
  have hwr : IntKind.i64.wrap ((H.length : Int) + (W.length : Int)) = (H.length : Int) + (W.length : Int) := IntWalk.i64_in _ (by omega)
  by_cases hx : (256 : Int) ≤ (H.length : Int) + (W.length : Int)
  all_goals
    first | (have hd : decide ((256 : Int) ≤ (H.length : Int) + (W.length : Int)) = true := decide_eq_true hx) | (have hd : decide ((256 : Int) ≤ (H.length : Int) + (W.length : Int)) = false := decide_eq_false hx)
    have Hx := Lib.hid hx
    have Hwr := Lib.hid hwr
    clear hx hwr
    go_enter Try.func26, Try.ntmps26
    go_wp2_with (go_at_call 29; refine (may_any _ _ _ _ _).mono ?_; rintro e w1 ⟨rfl, hb1⟩; have d0 := (hb1.cell (p := ⟨t, 0, none⟩) (by simp; omega)).trans ((World.cell?_alloc_lt _ _ _ (by simpa using htl)).trans c0); have d1 := (hb1.cell (p := ⟨t, 1, none⟩) (by simp; omega)).trans ((World.cell?_alloc_lt _ _ _ (by simpa using htl)).trans c1))
    · go_ret
      exact ⟨ret_int (by unfold checkF; rw [if_pos (by simpa using ‹(!mayB _) = true›)]), by repeat (first | assumption | exact Ext.refl _ | refine Ext.trans ?_ (by assumption) | apply Ext.alloc | apply Ext.drew | apply Ext.drewN)⟩
    · have hwr := Hwr.out
      go_region_held3 (fun wx => wx.cell? ⟨t, 0, none⟩ = some (.slice A H.length ch) ∧ wx.cell? ⟨t, 1, none⟩ = some (.slice C W.length cw)) (first | exact ⟨d0, d1⟩) (first | fail)
      clear hwr
      go_wp2_with fail
      go_ret
      refine ⟨ret_int ?_, by repeat (first | assumption | exact Ext.refl _ | refine Ext.trans ?_ (by assumption) | apply Ext.alloc | apply Ext.drew | apply Ext.drewN)⟩
      have hx := Hx.out
      unfold checkF
      rw [if_neg (by simpa using ‹(!mayB _) = false›)]
      first | rw [if_pos (by omega)] | rw [if_neg (by omega)]

/-- A lock that is let in. -/
def freeB (l : Lk) (H W : List Lk) : Bool := !meetsB l H && !meetsB l W

theorem free_any (t : Nat) (ty : TypeId) (hv wv : Value) (H W : List Lk) (wa pa na : Int) (sa : Bool) (w : World) (ht : Tab w ty t hv wv H W) (h0 : 0 ≤ pa) (h1 : 0 ≤ na) (h2 : pa + na ≤ 4611686018427387904) :
    Calls Try.prog 27 #[.pointer (some ⟨t, 0, none⟩), .agg #[.int .i64 wa, .int .i64 pa, .int .i64 na, .bool sa]] w
      fun e w' => e = .returned (.bool (freeB ⟨wa, pa, na, sa⟩ H W)) ∧ Ext w w' := by
  obtain ⟨A, ch, rfl, -, -⟩ := ht.held.form
  obtain ⟨C, cw, rfl, -, -⟩ := ht.waits.form
  have f := ht.few
  have htl := ht.lt
  have c0 := ht.cell0
  have c1 := ht.cell1
  have HA : Hid (LkSl w A H.length H) := LkSl.of_own ht.held
  have HC : Hid (LkSl w C W.length W) := LkSl.of_own ht.waits
  have HO : Hid (∀ l ∈ H, mayB l = true) := ht.hok
  have WO : Hid (∀ l ∈ W, mayB l = true) := ht.wok
  clear ht
  generalize hl : (.cells #[.int .i64 wa, .int .i64 pa, .int .i64 na, .bool sa] 29 : Obj) = lo
  have e0 : Ext w (w.alloc lo) := (Ext.refl _).alloc _
  have k0 : ∀ wx, Ext (w.alloc lo) wx → wx.cell? ⟨t, 0, none⟩ = some (.slice A H.length ch) := fun wx h => ((e0.trans h).cell htl).trans c0
  have k1 : ∀ wx, Ext (w.alloc lo) wx → wx.cell? ⟨t, 1, none⟩ = some (.slice C W.length cw) := fun wx h => ((e0.trans h).cell htl).trans c1
  have q0 : ∀ wx, Ext (w.alloc lo) wx → wx.cell? ⟨w.heap.size, 0, none⟩ = some (.int .i64 wa) := fun wx h => by subst hl; exact h.cell_new 0
  have q1 : ∀ wx, Ext (w.alloc lo) wx → wx.cell? ⟨w.heap.size, 1, none⟩ = some (.int .i64 pa) := fun wx h => by subst hl; exact h.cell_new 1
  have q2 : ∀ wx, Ext (w.alloc lo) wx → wx.cell? ⟨w.heap.size, 2, none⟩ = some (.int .i64 na) := fun wx h => by subst hl; exact h.cell_new 2
  have q3 : ∀ wx, Ext (w.alloc lo) wx → wx.cell? ⟨w.heap.size, 3, none⟩ = some (.bool sa) := fun wx h => by subst hl; exact h.cell_new 3
  have HA' : Hid (∀ wx, Ext (w.alloc lo) wx → LkSl wx A H.length H) := fun wx h => HA.out.ext (e0.trans h)
  have HC' : Hid (∀ wx, Ext (w.alloc lo) wx → LkSl wx C W.length W) := fun wx h => HC.out.ext (e0.trans h)
  subst hl
  clear e0 c0 c1 HA HC
  cases hm : meetsB ⟨wa, pa, na, sa⟩ H with
  | true =>
    go_enter Try.func27, Try.ntmps27
    go_wp2_with fail
    refine region_lin (fun wx => Ext (w.alloc (.cells #[.int .i64 wa, .int .i64 pa, .int .i64 na, .bool sa] 29)) wx) 100000 [(0, 0), (1, 0), (2, 0), (3, 0), (4, 0), (5, 1), (6, 0), (7, 0), (8, 0), (9, 0), (10, 0), (11, 0), (12, 0), (13, 1), (14, 0), (15, 0), (16, 0)] ?_ (by kernel_rfl) (by kernel_rfl) ?_ (fun _ _ _ _ _ h => h) ((Ext.refl _).drew) ?_
    rotate_left
    (simp only [planOps, List.mapM_cons, List.mapM_nil, List.getElem?_toArray, List.getElem?_cons_zero, List.getElem?_cons_succ, Option.map_some, Option.bind_eq_bind, Option.bind_some, Option.pure_def]; rfl)
    intro wd hwd hxd
    clear hxd
    repeat (first | (refine lin_take ?_ (by rfl) (fun wx hx => ?_) ?_; rotate_left; go_simp; (with_reducible rfl); try simp only [Act.put, List.setIfInBounds_toArray, List.set_cons_zero, List.set_cons_succ]) | (refine lin_skip (by rfl) ?_; try simp only [Act.put, List.setIfInBounds_toArray, List.set_cons_zero, List.set_cons_succ]) | (refine lin_take3 ?_ (by rfl) (fun wx hx => ?_) ?_; rotate_left; go_simp; (with_reducible rfl); try simp only [Act.put, List.setIfInBounds_toArray, List.set_cons_zero, List.set_cons_succ]))
    refine lin_run (by rfl) (fun K hK => ?_)
    go_simp
    refine (meets_any _ _ _ _ _ _ _ H _ h0 h1 h2 (by omega) (HA'.out _ hwd) HO.out).mono ?_
    rintro e w1 ⟨rfl, hb1⟩
    refine hK _ _ (hwd.trans hb1) ?_
    rw [hm]
    try simp only [Act.put, List.setIfInBounds_toArray, List.set_cons_zero, List.set_cons_succ]
    repeat (first | (refine lin_take ?_ (by rfl) (fun wx hx => ?_) ?_; rotate_left; go_simp; (with_reducible rfl); try simp only [Act.put, List.setIfInBounds_toArray, List.set_cons_zero, List.set_cons_succ]) | (refine lin_skip (by rfl) ?_; try simp only [Act.put, List.setIfInBounds_toArray, List.set_cons_zero, List.set_cons_succ]) | (refine lin_take3 ?_ (by rfl) (fun wx hx => ?_) ?_; rotate_left; go_simp; (with_reducible rfl); try simp only [Act.put, List.setIfInBounds_toArray, List.set_cons_zero, List.set_cons_succ]))
    refine lin_pass (by rfl) (hwd.trans hb1) ?_
    try simp only [Act.put, List.setIfInBounds_toArray, List.set_cons_zero, List.set_cons_succ]
    repeat (first | (refine lin_take ?_ (by rfl) (fun wx hx => ?_) ?_; rotate_left; go_simp; (with_reducible rfl); try simp only [Act.put, List.setIfInBounds_toArray, List.set_cons_zero, List.set_cons_succ]) | (refine lin_skip (by rfl) ?_; try simp only [Act.put, List.setIfInBounds_toArray, List.set_cons_zero, List.set_cons_succ]) | (refine lin_take3 ?_ (by rfl) (fun wx hx => ?_) ?_; rotate_left; go_simp; (with_reducible rfl); try simp only [Act.put, List.setIfInBounds_toArray, List.set_cons_zero, List.set_cons_succ]))
    refine lin_nil ?_
    go_wp2_with fail
    go_ret
    exact ⟨ret_bool (by simp [freeB, hm]), by repeat (first | assumption | exact Ext.refl _ | exact Mod.refl _ _ | refine Ext.trans ?_ (by assumption) | apply Ext.alloc | apply Ext.drew | apply Ext.drewN)⟩
  | false =>
    go_enter Try.func27, Try.ntmps27
    go_wp2_with fail
    refine region_lin (fun wx => Ext (w.alloc (.cells #[.int .i64 wa, .int .i64 pa, .int .i64 na, .bool sa] 29)) wx) 100000 [(0, 0), (1, 0), (2, 0), (3, 0), (4, 0), (5, 1), (6, 0), (7, 0), (8, 0), (9, 0), (10, 0), (11, 0), (12, 0), (13, 1), (14, 0), (15, 0), (16, 0)] ?_ (by kernel_rfl) (by kernel_rfl) ?_ (fun _ _ _ _ _ h => h) ((Ext.refl _).drew) ?_
    rotate_left
    (simp only [planOps, List.mapM_cons, List.mapM_nil, List.getElem?_toArray, List.getElem?_cons_zero, List.getElem?_cons_succ, Option.map_some, Option.bind_eq_bind, Option.bind_some, Option.pure_def]; rfl)
    intro wd hwd hxd
    clear hxd
    repeat (first | (refine lin_take ?_ (by rfl) (fun wx hx => ?_) ?_; rotate_left; go_simp; (with_reducible rfl); try simp only [Act.put, List.setIfInBounds_toArray, List.set_cons_zero, List.set_cons_succ]) | (refine lin_skip (by rfl) ?_; try simp only [Act.put, List.setIfInBounds_toArray, List.set_cons_zero, List.set_cons_succ]) | (refine lin_take3 ?_ (by rfl) (fun wx hx => ?_) ?_; rotate_left; go_simp; (with_reducible rfl); try simp only [Act.put, List.setIfInBounds_toArray, List.set_cons_zero, List.set_cons_succ]))
    refine lin_run (by rfl) (fun K hK => ?_)
    go_simp
    refine (meets_any _ _ _ _ _ _ _ H _ h0 h1 h2 (by omega) (HA'.out _ hwd) HO.out).mono ?_
    rintro e w1 ⟨rfl, hb1⟩
    refine hK _ _ (hwd.trans hb1) ?_
    rw [hm]
    try simp only [Act.put, List.setIfInBounds_toArray, List.set_cons_zero, List.set_cons_succ]
    repeat (first | (refine lin_take ?_ (by rfl) (fun wx hx => ?_) ?_; rotate_left; go_simp; (with_reducible rfl); try simp only [Act.put, List.setIfInBounds_toArray, List.set_cons_zero, List.set_cons_succ]) | (refine lin_skip (by rfl) ?_; try simp only [Act.put, List.setIfInBounds_toArray, List.set_cons_zero, List.set_cons_succ]) | (refine lin_take3 ?_ (by rfl) (fun wx hx => ?_) ?_; rotate_left; go_simp; (with_reducible rfl); try simp only [Act.put, List.setIfInBounds_toArray, List.set_cons_zero, List.set_cons_succ]))
    refine lin_run (by rfl) (fun K hK => ?_)
    go_simp
    refine (meets_any _ _ _ _ _ _ _ W _ h0 h1 h2 (by omega) (HC'.out _ (hwd.trans hb1)) WO.out).mono ?_
    rintro e w2 ⟨rfl, hb2⟩
    refine hK _ _ (hwd.trans (hb1.trans hb2)) ?_
    try simp only [Act.put, List.setIfInBounds_toArray, List.set_cons_zero, List.set_cons_succ]
    repeat (first | (refine lin_take ?_ (by rfl) (fun wx hx => ?_) ?_; rotate_left; go_simp; (with_reducible rfl); try simp only [Act.put, List.setIfInBounds_toArray, List.set_cons_zero, List.set_cons_succ]) | (refine lin_skip (by rfl) ?_; try simp only [Act.put, List.setIfInBounds_toArray, List.set_cons_zero, List.set_cons_succ]) | (refine lin_take3 ?_ (by rfl) (fun wx hx => ?_) ?_; rotate_left; go_simp; (with_reducible rfl); try simp only [Act.put, List.setIfInBounds_toArray, List.set_cons_zero, List.set_cons_succ]))
    refine lin_nil ?_
    go_wp2_with fail
    go_ret
    exact ⟨ret_bool (by simp [freeB, hm]), by repeat (first | assumption | exact Ext.refl _ | exact Mod.refl _ _ | refine Ext.trans ?_ (by assumption) | apply Ext.alloc | apply Ext.drew | apply Ext.drewN)⟩
end Go.Proofs.Ytpjgfkdnjkfnfaa
