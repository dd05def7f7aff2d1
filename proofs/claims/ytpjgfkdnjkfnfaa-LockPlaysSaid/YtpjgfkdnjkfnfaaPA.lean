/- The document's table of locks: Meet, meets, May, refused. -/
import Derived.Test.YtpjgfkdnjkfnfaaQ
namespace Go.Proofs.Ytpjgfkdnjkfnfaa
open Go.RowKit Go.Maps

theorem refmeet_eq {wa pa na : Int} {sa : Bool} {wb pb nb : Int} {sb : Bool} (h1 : 0 ≤ na) (h4 : 0 ≤ nb) :
    meetB ⟨wa, pa, na, sa⟩ ⟨wb, pb, nb, sb⟩ = ((!decide (wa = wb) && !(sa && sb)) && ((decide (na = 0) || decide (pb < pa + na)) && (decide (nb = 0) || decide (pa < pb + nb)))) := by
  have e1 : (decide (0 < na) && decide (pa + na ≤ pb)) = !(decide (na = 0) || decide (pb < pa + na)) := by
    by_cases h : na = 0 <;> by_cases k : pb < pa + na <;> simp [h, k] <;> omega
  have e2 : (decide (0 < nb) && decide (pb + nb ≤ pa)) = !(decide (nb = 0) || decide (pa < pb + nb)) := by
    by_cases h : nb = 0 <;> by_cases k : pa < pb + nb <;> simp [h, k] <;> omega
  simp only [meetB, aheadB, e1, e2, Bool.not_not, Bool.and_assoc]

set_option maxRecDepth 20000 in
theorem refmeet_any (wa pa na : Int) (sa : Bool) (wb pb nb : Int) (sb : Bool) (w : World) (h0 : 0 ≤ pa) (h1 : 0 ≤ na) (h2 : pa + na ≤ 4611686018427387904) (h3 : 0 ≤ pb) (h4 : 0 ≤ nb) (h5 : pb + nb ≤ 4611686018427387904) :
    Calls Try.prog 42 #[.agg #[.int .i64 wa, .int .i64 pa, .int .i64 na, .bool sa], .agg #[.int .i64 wb, .int .i64 pb, .int .i64 nb, .bool sb]] w
      fun e w' => e = .returned (.bool (meetB ⟨wa, pa, na, sa⟩ ⟨wb, pb, nb, sb⟩)) ∧ Ext w w' := by
  have n1 : IntKind.i64.wrap (pa + na) = pa + na := IntWalk.i64_in _ (by omega)
  have n2 : IntKind.i64.wrap (pb + nb) = pb + nb := IntWalk.i64_in _ (by omega)
  go_enter Try.func42, Try.ntmps42
  go_wp2
  all_goals
    go_ret
    refine ⟨ret_bool ?_, by repeat (first | assumption | exact Ext.refl _ | exact Mod.refl _ _ | refine Ext.trans ?_ (by assumption) | apply Ext.alloc | apply Ext.drew | apply Ext.drewN)⟩
    rw [refmeet_eq (by omega) (by omega)]
    simp [*]
    try omega

theorem refmay_any (wa pa na : Int) (sa : Bool) (w : World) :
    Calls Try.prog 34 #[.agg #[.int .i64 wa, .int .i64 pa, .int .i64 na, .bool sa]] w fun e w' => e = .returned (.bool (mayB ⟨wa, pa, na, sa⟩)) ∧ Ext w w' := by
  go_enter Try.func34, Try.ntmps34
  go_wp2
  all_goals
    go_ret
    exact ⟨ret_bool (by simp [mayB, *]; try omega), (Ext.refl _).alloc _⟩

set_option maxRecDepth 20000 in
theorem refmeets_any (wa pa na : Int) (sa : Bool) (A : Option Addr) (n c : Nat) (ls : List Lk) (w : World) (h0 : 0 ≤ pa) (h1 : 0 ≤ na) (h2 : pa + na ≤ 4611686018427387904) (hn : n ≤ 9223372036854775807)
    (hs : LkSl w A n ls) (hok : ∀ l ∈ ls, mayB l = true) :
    Calls Try.prog 32 #[.agg #[.int .i64 wa, .int .i64 pa, .int .i64 na, .bool sa], .slice A n c] w fun e w' => e = .returned (.bool (meetsB ⟨wa, pa, na, sa⟩ ls)) ∧ Ext w w' := by
  have Hok := Lib.hid hok
  have Hs := Lib.hid hs
  clear hok hs
  go_enter Try.func32, Try.ntmps32
  go_wp2
  go_loopw [5] (fun i wr => ∃ k : Nat, k ≤ n ∧ i = .int .i64 k ∧ meetsB ⟨wa, pa, na, sa⟩ (ls.take k) = false ∧ Ext (w.alloc (.cells #[.int .i64 wa, .int .i64 pa, .int .i64 na, .bool sa] 29)) wr) (fun i _ => n - (intOf i).toNat)
  case atStart => exact ⟨0, Nat.zero_le _, rfl, by simp [meetsB], Ext.refl _⟩
  case round =>
    obtain ⟨k, hk, rfl, hpre, hx⟩ := hrel
    have Hpre := Lib.hid hpre
    clear hpre
    by_cases hlt : k < n
    · obtain ⟨b, off, rfl, hb, hce⟩ := (Hs.out.ext (((Ext.refl _).alloc _).trans hx)).2 (by omega)
      have hkl : k < ls.length := by have := Hs.out.1; omega
      obtain ⟨c1, c2, c3, c4⟩ := hce k ls[k] (List.getElem?_eq_getElem hkl)
      obtain ⟨m1, m2, m3, m4, m5, m6⟩ := (may_iff _).1 (Hok.out ls[k] (List.getElem_mem hkl))
      have p0 : ∀ wx, Ext wr wx → wx.cell? ⟨b, off + k * 4, none⟩ = some (.int .i64 ls[k].who) := fun wx h => h.cell_some c1
      have p1 : ∀ wx, Ext wr wx → wx.cell? ⟨b, off + k * 4 + 1, none⟩ = some (.int .i64 ls[k].pos) := fun wx h => h.cell_some c2
      have p2 : ∀ wx, Ext wr wx → wx.cell? ⟨b, off + k * 4 + 2, none⟩ = some (.int .i64 ls[k].num) := fun wx h => h.cell_some c3
      have p3 : ∀ wx, Ext wr wx → wx.cell? ⟨b, off + k * 4 + 3, none⟩ = some (.bool ls[k].sh) := fun wx h => h.cell_some c4
      have q0 : ∀ wx, Ext wr wx → wx.cell? ⟨w.heap.size, 0, none⟩ = some (.int .i64 wa) := fun wx h => (hx.trans h).cell_new 0
      have q1 : ∀ wx, Ext wr wx → wx.cell? ⟨w.heap.size, 1, none⟩ = some (.int .i64 pa) := fun wx h => (hx.trans h).cell_new 1
      have q2 : ∀ wx, Ext wr wx → wx.cell? ⟨w.heap.size, 2, none⟩ = some (.int .i64 na) := fun wx h => (hx.trans h).cell_new 2
      have q3 : ∀ wx, Ext wr wx → wx.cell? ⟨w.heap.size, 3, none⟩ = some (.bool sa) := fun wx h => (hx.trans h).cell_new 3
      clear hce c1 c2 c3 c4
      go_wp2_with fail
      refine region_lin (fun wx => Ext wr wx) 5 [(0, 0), (1, 3), (2, 3), (3, 3), (4, 0), (5, 2)] ?_ (by kernel_rfl) (by kernel_rfl) ?_ (fun _ _ _ _ _ h => h) ((Ext.refl _).drew) ?_
      rotate_left
      (simp only [planOps, List.mapM_cons, List.mapM_nil, List.getElem?_toArray, List.getElem?_cons_zero, List.getElem?_cons_succ, Option.map_some, Option.bind_eq_bind, Option.bind_some, Option.pure_def]; rfl)
      intro wd hwd hxd
      clear hxd
      repeat (first | (refine lin_take ?_ (by rfl) (fun wx hx => ?_) ?_; rotate_left; go_simp; (with_reducible rfl); try simp only [Act.put, List.setIfInBounds_toArray, List.set_cons_zero, List.set_cons_succ]) | (refine lin_skip (by rfl) ?_; try simp only [Act.put, List.setIfInBounds_toArray, List.set_cons_zero, List.set_cons_succ]) | (refine lin_take3 ?_ (by rfl) (fun wx hx => ?_) ?_; rotate_left; go_simp; (with_reducible rfl); try simp only [Act.put, List.setIfInBounds_toArray, List.set_cons_zero, List.set_cons_succ]))
      refine lin_last (by rfl) (fun K hK => ?_)
      go_simp
      refine (refmeet_any _ _ _ _ _ _ _ _ _ h0 h1 h2 (by omega) (by omega) (by omega)).mono ?_
      rintro e w1 ⟨rfl, hb1⟩
      refine hK _ _ trivial ?_
      try simp only [Act.put, List.setIfInBounds_toArray, List.set_cons_zero, List.set_cons_succ]
      have e5 := hwd.trans hb1
      clear hwd hb1 p0 p1 p2 p3 q0 q1 q2 q3
      cases hm : meetB ⟨wa, pa, na, sa⟩ ⟨ls[k].who, ls[k].pos, ls[k].num, ls[k].sh⟩ with
      | true =>
        go_wp2_with fail
        go_ret
        exact ⟨ret_bool (List.any_eq_true.2 ⟨_, List.getElem_mem hkl, hm⟩).symm, ((Ext.refl _).alloc _).trans (hx.trans e5)⟩
      | false =>
        go_wp2_with fail
        go_roundw
        case rel =>
          refine ⟨k + 1, by omega, by go_num, ?_, hx.trans e5⟩
          have h := Hpre.out
          unfold meetsB at h ⊢
          rw [List.take_succ_eq_append_getElem hkl, List.any_append, h]
          simpa using hm
        case measure => simp [intOf]; omega
    · go_wp2
      go_ret
      refine ⟨ret_bool ?_, ((Ext.refl _).alloc _).trans hx⟩
      have : k = n := by omega
      subst this
      have h := Hpre.out
      rw [Hs.out.1, List.take_length] at h
      rw [h]

set_option maxRecDepth 20000 in
theorem refused_any (t : Nat) (ty : TypeId) (hv wv : Value) (H W : List Lk) (wa pa na : Int) (sa : Bool) (w : World) (ht : Tab w ty t hv wv H W) :
    Calls Try.prog 31 #[.pointer (some ⟨t, 0, none⟩), .agg #[.int .i64 wa, .int .i64 pa, .int .i64 na, .bool sa]] w
      fun e w' => e = .returned (.int .i64 (checkF ⟨wa, pa, na, sa⟩ H W)) ∧ Ext w w' := by
  obtain ⟨A, ch, rfl, -, -⟩ := ht.held.form
  obtain ⟨C, cw, rfl, -, -⟩ := ht.waits.form
  have f := ht.few
  have htl := ht.lt
  have e0 : Ext w (w.alloc (.cells #[.int .i64 wa, .int .i64 pa, .int .i64 na, .bool sa] 29)) := (Ext.refl _).alloc _
  have d0 : ∀ wx, Ext (w.alloc (.cells #[.int .i64 wa, .int .i64 pa, .int .i64 na, .bool sa] 29)) wx → wx.cell? ⟨t, 0, none⟩ = some (.slice A H.length ch) := fun wx h => ((e0.trans h).cell htl).trans ht.cell0
  have d1 : ∀ wx, Ext (w.alloc (.cells #[.int .i64 wa, .int .i64 pa, .int .i64 na, .bool sa] 29)) wx → wx.cell? ⟨t, 1, none⟩ = some (.slice C W.length cw) := fun wx h => ((e0.trans h).cell htl).trans ht.cell1
  clear ht
  have hwr : IntKind.i64.wrap ((H.length : Int) + (W.length : Int)) = (H.length : Int) + (W.length : Int) := IntWalk.i64_in _ (by omega)
  by_cases hx : (256 : Int) ≤ (H.length : Int) + (W.length : Int)
  all_goals
    first | (have hd : decide ((256 : Int) ≤ (H.length : Int) + (W.length : Int)) = true := decide_eq_true hx) | (have hd : decide ((256 : Int) ≤ (H.length : Int) + (W.length : Int)) = false := decide_eq_false hx)
    have Hx := Lib.hid hx
    have Hwr := Lib.hid hwr
    clear hx hwr
    go_enter Try.func31, Try.ntmps31
    go_wp2_with (go_at_call 34; refine (refmay_any _ _ _ _ _).mono ?_; rintro e w1 ⟨rfl, hb1⟩)
    · go_ret
      exact ⟨ret_int (by unfold checkF; rw [if_pos (by simpa using ‹(!mayB _) = true›)]), by repeat (first | assumption | exact Ext.refl _ | refine Ext.trans ?_ (by assumption) | apply Ext.alloc | apply Ext.drew | apply Ext.drewN)⟩
    · have hwr := Hwr.out
      refine region_lin (fun wx => Ext w1 wx) 100000 [(0, 3), (1, 3), (2, 3), (3, 0), (4, 3), (5, 3), (6, 3), (7, 3), (8, 0), (9, 3), (10, 3), (11, 3)] ?_ (by kernel_rfl) (by kernel_rfl) ?_ (fun _ _ _ _ _ h => h) ((Ext.refl _).drew) ?_
      rotate_left
      (simp only [planOps, List.mapM_cons, List.mapM_nil, List.getElem?_toArray, List.getElem?_cons_zero, List.getElem?_cons_succ, Option.map_some, Option.bind_eq_bind, Option.bind_some, Option.pure_def]; rfl)
      intro wd hwd hxd
      have e1 := hb1.trans hwd
      have d0 : ∀ wx, Ext w1 wx → wx.cell? ⟨t, 0, none⟩ = some (.slice A H.length ch) := fun wx h => d0 wx (hb1.trans h)
      have d1 : ∀ wx, Ext w1 wx → wx.cell? ⟨t, 1, none⟩ = some (.slice C W.length cw) := fun wx h => d1 wx (hb1.trans h)
      repeat (first | (refine lin_take ?_ (by rfl) (fun wx hx => ?_) ?_; rotate_left; go_simp; (with_reducible rfl); try simp only [Act.put, List.setIfInBounds_toArray, List.set_cons_zero, List.set_cons_succ]) | (refine lin_skip (by rfl) ?_; try simp only [Act.put, List.setIfInBounds_toArray, List.set_cons_zero, List.set_cons_succ]) | (refine lin_take3 ?_ (by rfl) (fun wx hx => ?_) ?_; rotate_left; go_simp; (with_reducible rfl); try simp only [Act.put, List.setIfInBounds_toArray, List.set_cons_zero, List.set_cons_succ]))
      refine lin_nil ?_
      clear hwr
      go_wp2_with fail
      go_ret
      refine ⟨ret_int ?_, e0.trans e1⟩
      have hx := Hx.out
      unfold checkF
      rw [if_neg (by simpa using ‹(!mayB _) = false›)]
      first | rw [if_pos (by omega)] | rw [if_neg (by omega)]
end Go.Proofs.Ytpjgfkdnjkfnfaa
