/- The document's reader in memory; number, wrong, Done, Held. -/
import Derived.Test.YtcpnnkkfndgpjaaDoorDF
import Derived.Test.YtcpnnkkfndgpjaaDoorDB
namespace Go.Proofs.YtcpnnkkfndgpjaaDoor
open Go.RowKit

structure RfAt (w : World) (r : Nat) (A : Option Addr) (n c : Nat) (B : Bs) (f t : Nat) (a : Bs) (torn whole : Bool) : Prop where
  blk : w.heap[r]? = some (.cells #[.slice A n c, .int .i64 (f : Int), .int .i64 (t : Int), .string (mkB a), .bool torn, .bool whole] 46 (0, 0))
  own : Own w 5 1 (.slice A n c) n (u8v B)
  apart : (Value.slice A n c).ownBlock ≠ some r
section
variable {w w' : World} {r n c f t : Nat} {A : Option Addr} {B a : Bs} {torn whole : Bool} {S : Nat → Prop}
theorem RfAt.len (h : RfAt w r A n c B f t a torn whole) : n = B.length := by have := h.own.1; simp [u8v] at this; omega
theorem RfAt.lt (h : RfAt w r A n c B f t a torn whole) : r < w.heap.size := (Array.getElem?_eq_some_iff.1 h.blk).1
theorem RfAt.bytes (h : RfAt w r A n c B f t a torn whole) : BySl w A n B := h.own.bytes rfl
theorem RfAt.mod (h : RfAt w r A n c B f t a torn whole) (hm : Mod S w w') (h1 : ¬ S r) (h2 : ∀ k, (Value.slice A n c).ownBlock = some k → ¬ S k) : RfAt w' r A n c B f t a torn whole :=
  ⟨(hm.block r h.lt h1).trans h.blk, h.own.mod hm h2, h.apart⟩
theorem RfAt.ext (h : RfAt w r A n c B f t a torn whole) (hm : Ext w w') : RfAt w' r A n c B f t a torn whole := h.mod hm (fun f => f) (fun _ _ f => f)
theorem RfAt.cells (h : RfAt w r A n c B f t a torn whole) : w.cell? ⟨r, 0, none⟩ = some (.slice A n c) ∧ w.cell? ⟨r, 1, none⟩ = some (.int .i64 (f : Int)) ∧ w.cell? ⟨r, 2, none⟩ = some (.int .i64 (t : Int)) ∧ w.cell? ⟨r, 3, none⟩ = some (.string (mkB a)) ∧
    w.cell? ⟨r, 4, none⟩ = some (.bool torn) ∧ w.cell? ⟨r, 5, none⟩ = some (.bool whole) ∧ (∀ o, w.frozen? ⟨r, o, none⟩ = false) := by
  have hc := fun i => cell_of_row w r i _ 46 (0, 0) h.blk
  refine ⟨hc 0, hc 1, hc 2, hc 3, hc 4, hc 5, fun o => ?_⟩
  simp [World.frozen?, h.blk]
theorem RfAt.setFrom (h : RfAt w r A n c B f t a torn whole) (g : Nat) : RfAt (w.setCell ⟨r, 1, none⟩ (.int .i64 (g : Int))) r A n c B g t a torn whole :=
  ⟨heap_setCell_at h.blk _, h.own.mod (mod_set w r 1 _) (fun _ hk e => h.apart (e ▸ hk)), h.apart⟩
theorem RfAt.setTold (h : RfAt w r A n c B f t a torn whole) (g : Nat) : RfAt (w.setCell ⟨r, 2, none⟩ (.int .i64 (g : Int))) r A n c B f g a torn whole :=
  ⟨heap_setCell_at h.blk _, h.own.mod (mod_set w r 2 _) (fun _ hk e => h.apart (e ▸ hk)), h.apart⟩
theorem RfAt.setLast (h : RfAt w r A n c B f t a torn whole) (g : Bs) : RfAt (w.setCell ⟨r, 3, none⟩ (.string (mkB g))) r A n c B f t g torn whole :=
  ⟨heap_setCell_at h.blk _, h.own.mod (mod_set w r 3 _) (fun _ hk e => h.apart (e ▸ hk)), h.apart⟩
theorem RfAt.setTorn (h : RfAt w r A n c B f t a torn whole) (g : Bool) : RfAt (w.setCell ⟨r, 4, none⟩ (.bool g)) r A n c B f t a g whole :=
  ⟨heap_setCell_at h.blk _, h.own.mod (mod_set w r 4 _) (fun _ hk e => h.apart (e ▸ hk)), h.apart⟩
theorem RfAt.setWhole (h : RfAt w r A n c B f t a torn whole) (g : Bool) : RfAt (w.setCell ⟨r, 5, none⟩ (.bool g)) r A n c B f t a torn g :=
  ⟨heap_setCell_at h.blk _, h.own.mod (mod_set w r 5 _) (fun _ hk e => h.apart (e ▸ hk)), h.apart⟩
theorem RfAt.setB (h : RfAt w r A n c B f t a torn whole) {A' : Option Addr} {n' c' : Nat} {B' : Bs} (ho : Own w 5 1 (.slice A' n' c') n' (u8v B')) (ha : (Value.slice A' n' c').ownBlock ≠ some r) : RfAt (w.setCell ⟨r, 0, none⟩ (.slice A' n' c')) r A' n' c' B' f t a torn whole :=
  ⟨heap_setCell_at h.blk _, ho.mod (mod_set w r 0 _) (fun _ hk e => ha (e ▸ hk)), ha⟩
end
set_option maxRecDepth 20000 in
theorem rnumber_any (A : Option Addr) (n c : Nat) (l : Bs) (w : World) (hl : BySl w A n l) (hn : n ≤ 8) :
    Calls Tryd.prog 49 #[.slice A n c] w fun e w' => e = .returned (.int .u64 (numL l : Int)) ∧ w = w' := by
  have HL := Lib.hid hl
  clear hl
  go_enter Tryd.func49, Tryd.ntmps49
  go_wp2_with fail
  go_loop [3, 4] (fun s i => ∃ k : Nat, k ≤ n ∧ i = .int .i64 (k : Int) ∧ s = .int .u64 (numL (l.take k) : Int)) (fun _ i => n - (intOf i).toNat)
  case atStart => exact ⟨0, Nat.zero_le _, rfl, rfl⟩
  case round =>
    obtain ⟨k, hk, rfl, rfl⟩ := hrel
    obtain ⟨s, hs⟩ : ∃ s, numL (l.take k) = s := ⟨_, rfl⟩
    have Hs := Lib.hid hs
    rw [hs]
    clear hs
    by_cases hlt : k < n
    · obtain ⟨b, off, ch, rfl, -, hck, k0⟩ := HL.out.at hlt
      have Hlt : Hid (True ∧ s < 72057594037927936) := ⟨trivial, by
        have h1 := numL_lt (l.take k)
        rw [Hs.out] at h1
        have h2 : 256 ^ (l.take k).length ≤ 256 ^ 7 := Nat.pow_le_pow_right (by decide) (by simp; omega)
        omega⟩
      have d0 := k0 _ (Ext.refl _)
      have Hck := Lib.hid hck
      clear k0 hck
      go_wp2_with fail
      go_round
      case rel => exact ⟨k + 1, by omega, by go_num, put_int (by rw [or_byte Hlt.out.2, ← Hs.out, ← numL_snoc, ← take_snoc Hck.out])⟩
      case measure => simp [intOf]; omega
    · have hkn : k = n := by omega
      have He : Hid (s = numL l) := Lib.hid (by rw [← Hs.out, hkn, HL.out.1, List.take_length])
      clear hkn
      go_wp2_with fail
      go_ret
      exact ⟨ret_int (by rw [He.out]), rfl⟩
theorem headOk_bad {B : Bs} {k : Nat} {c d : UInt8} (h1 : B[k]? = some c) (h2 : headB[k]? = some d) (hn : c ≠ d) : headOk B = false := by
  unfold headOk
  rw [beq_eq_false_iff_ne]
  intro e
  have hk4 : k < 4 := by have := (List.getElem?_eq_some_iff.1 h2).1; exact this
  have hkl := (List.getElem?_eq_some_iff.1 h1).1
  have e1 : (B.take 4)[k]? = some c := by rw [List.getElem?_take_of_lt hk4, h1]
  have e2 : (headB.take B.length)[k]? = some d := by rw [List.getElem?_take_of_lt hkl, h2]
  rw [e, e2] at e1
  injection e1 with e1
  exact hn e1.symm
theorem headOk_good {B : Bs} (h : ∀ (k : Nat) (c d : UInt8), k < 4 → B[k]? = some c → headB[k]? = some d → c = d) : headOk B = true := by
  unfold headOk
  rw [beq_iff_eq]
  apply List.ext_getElem?
  intro k
  rw [List.getElem?_take, List.getElem?_take]
  by_cases hk : k < 4
  · rw [if_pos hk]
    by_cases hl : k < B.length
    · rw [if_pos hl]
      have h2 : k < headB.length := hk
      rw [List.getElem?_eq_getElem hl, List.getElem?_eq_getElem h2]
      rw [h k _ _ hk (List.getElem?_eq_getElem hl) (List.getElem?_eq_getElem h2)]
    · rw [if_neg hl, List.getElem?_eq_none (by omega)]
  · rw [if_neg hk]
    split
    · rw [List.getElem?_eq_none (show headB.length ≤ k by show 4 ≤ k; omega)]
    · rfl
set_option maxRecDepth 20000 in
set_option maxHeartbeats 2000000 in
theorem rwrong_any (r : Nat) (A : Option Addr) (n c : Nat) (B : Bs) (f t : Nat) (a : Bs) (torn whole : Bool) (w : World) (hr : RfAt w r A n c B f t a torn whole) :
    Calls Tryd.prog 39 #[.pointer (some ⟨r, 0, none⟩)] w fun e w' => e = .returned (.bool (!headOk B)) ∧ Ext w w' := by
  have HR := Lib.hid hr
  have hlen := hr.len
  have Hlen := Lib.hid hlen
  clear hr hlen
  go_enter Tryd.func39, Tryd.ntmps39
  go_wp2_with fail
  go_loopw [3] (fun iv wr => ∃ k : Nat, k ≤ 4 ∧ k ≤ n ∧ iv = .int .i64 (k : Int) ∧ Ext w wr ∧ (∀ (j : Nat) (c d : UInt8), j < k → B[j]? = some c → headB[j]? = some d → c = d)) (fun iv _ => 4 - (intOf iv).toNat)
  case atStart => exact ⟨0, Nat.zero_le _, Nat.zero_le _, rfl, Ext.refl _, fun j c d h => absurd h (by omega)⟩
  case round =>
    obtain ⟨k, hk4, hkn, rfl, hx, hj⟩ := hrel
    have HX := Lib.hid hx
    have HJ := Lib.hid hj
    clear hx hj
    obtain ⟨d0, -, -, -, -, -, -⟩ := (HR.out.ext HX.out).cells
    by_cases hlt : k < 4
    · have hk4' : (k : Int) < 4 := by omega
      by_cases hln : k < n
      · have hln' : (k : Int) < (n : Int) := by omega
        obtain ⟨b, off, ch, rfl, -, hck, k0⟩ := ((HR.out.ext HX.out).bytes).at hln
        obtain ⟨hd, hhd⟩ : ∃ d, headB[k]? = some d := ⟨_, List.getElem?_eq_getElem hlt⟩
        have Hck := Lib.hid hck
        have Hhd := Lib.hid hhd
        go_wp2_with fail
        have K0 : ∀ wx, Ext wr wx → wx.cell? ⟨r, 0, none⟩ = some (.slice (some ⟨b, off, none⟩) n c) := fun wx h => (((HR.out.ext HX.out).ext h).cells).1
        clear d0 hck hhd
        refine region_lin (fun wx => Ext wr wx) 100000 [(0, 3), (1, 3), (2, 3), (3, 0), (4, 3), (5, 3), (6, 0), (8, 3), (7, 1), (9, 3), (10, 1), (11, 3)] ?_ (by kernel_rfl) (by kernel_rfl) ?_ (fun _ _ _ _ _ h => h) ((Ext.refl _).drew) ?_
        rotate_left
        (simp only [planOps, List.mapM_cons, List.mapM_nil, List.getElem?_toArray, List.getElem?_cons_zero, List.getElem?_cons_succ, Option.map_some, Option.bind_eq_bind, Option.bind_some, Option.pure_def]; rfl)
        intro wd hwd hxd
        repeat (first | (refine lin_take ?_ (by rfl) (fun wx hx => ?_) ?_; rotate_left; go_simp; (with_reducible rfl); try simp only [Act.put, List.setIfInBounds_toArray, List.set_cons_zero, List.set_cons_succ]) | (refine lin_skip (by rfl) ?_; try simp only [Act.put, List.setIfInBounds_toArray, List.set_cons_zero, List.set_cons_succ]) | (refine lin_take3 ?_ (by rfl) (fun wx hx => ?_) ?_; rotate_left; go_simp; (with_reducible rfl); try simp only [Act.put, List.setIfInBounds_toArray, List.set_cons_zero, List.set_cons_succ]) | (refine lin_skip3 (by rfl) ?_; try simp only [Act.put, List.setIfInBounds_toArray, List.set_cons_zero, List.set_cons_succ]))
        refine lin_run (by rfl) (fun KC hK => ?_)
        go_simp
        refine (rhead_any wd).mono ?_
        rintro e w3 ⟨v3, rfl, hm3⟩
        obtain ⟨A3, c3, rfl, hb3⟩ := hm3.form
        obtain ⟨b3, o3, rfl, hb3', hc3⟩ := hb3.2 (by decide)
        have q0 := hc3 k hd Hhd.out
        rw [show headB.length = 4 from rfl]
        refine hK _ _ (hwd.trans hm3.1) ?_
        clear hK
        have HX3 := Lib.hid (HX.out.trans (hwd.trans hm3.1))
        have HX13 := Lib.hid (hwd.trans hm3.1)
        clear hm3 hb3 hc3 hb3'
        try simp only [Act.put, List.setIfInBounds_toArray, List.set_cons_zero, List.set_cons_succ]
        repeat (first | (refine lin_take ?_ (by rfl) (fun wx hx => ?_) ?_; rotate_left; go_simp; (with_reducible rfl); try simp only [Act.put, List.setIfInBounds_toArray, List.set_cons_zero, List.set_cons_succ]) | (refine lin_skip (by rfl) ?_; try simp only [Act.put, List.setIfInBounds_toArray, List.set_cons_zero, List.set_cons_succ]) | (refine lin_take3 ?_ (by rfl) (fun wx hx => ?_) ?_; rotate_left; go_simp; (with_reducible rfl); try simp only [Act.put, List.setIfInBounds_toArray, List.set_cons_zero, List.set_cons_succ]) | (refine lin_skip3 (by rfl) ?_; try simp only [Act.put, List.setIfInBounds_toArray, List.set_cons_zero, List.set_cons_succ]))
        refine lin_run (by rfl) (fun KC hK => ?_)
        go_simp
        refine hK _ _ HX13.out ?_
        clear hK
        try simp only [Act.put, List.setIfInBounds_toArray, List.set_cons_zero, List.set_cons_succ]
        by_cases hcd : ch = hd
        · have b1 : ((ch.toNat : Int) == (hd.toNat : Int)) = true := by rw [hcd]; simp
          have HJ2 : Hid (∀ (j : Nat) (c d : UInt8), j < k + 1 → B[j]? = some c → headB[j]? = some d → c = d) := Lib.hid (fun j c d h h1 h2 => by
            rcases Nat.lt_or_ge j k with hjk | hjk
            · exact HJ.out j c d hjk h1 h2
            · obtain rfl : j = k := by omega
              rw [Hck.out] at h1; rw [Hhd.out] at h2
              cases h1; cases h2; exact hcd)
          clear hcd
          repeat (first | (refine lin_take ?_ (by rfl) (fun wx hx => ?_) ?_; rotate_left; go_simp; (with_reducible rfl); try simp only [Act.put, List.setIfInBounds_toArray, List.set_cons_zero, List.set_cons_succ]) | (refine lin_skip (by rfl) ?_; try simp only [Act.put, List.setIfInBounds_toArray, List.set_cons_zero, List.set_cons_succ]) | (refine lin_take3 ?_ (by rfl) (fun wx hx => ?_) ?_; rotate_left; go_simp; (with_reducible rfl); try simp only [Act.put, List.setIfInBounds_toArray, List.set_cons_zero, List.set_cons_succ]) | (refine lin_skip3 (by rfl) ?_; try simp only [Act.put, List.setIfInBounds_toArray, List.set_cons_zero, List.set_cons_succ]))
          refine lin_nil ?_
          clear hwd hxd K0 q0 HX13
          go_wp2_with fail
          go_roundw
          case rel => exact ⟨k + 1, by omega, by omega, by go_num, HX3.out, HJ2.out⟩
          case measure => simp [intOf]; omega
        · have b1 : ((ch.toNat : Int) == (hd.toNat : Int)) = false := beq_eq_false_iff_ne.2 (fun e => hcd (UInt8.toNat_inj.1 (by omega)))
          have hv : Hid (headOk B = false) := Lib.hid (headOk_bad Hck.out Hhd.out hcd)
          clear hcd
          repeat (first | (refine lin_take ?_ (by rfl) (fun wx hx => ?_) ?_; rotate_left; go_simp; (with_reducible rfl); try simp only [Act.put, List.setIfInBounds_toArray, List.set_cons_zero, List.set_cons_succ]) | (refine lin_skip (by rfl) ?_; try simp only [Act.put, List.setIfInBounds_toArray, List.set_cons_zero, List.set_cons_succ]) | (refine lin_take3 ?_ (by rfl) (fun wx hx => ?_) ?_; rotate_left; go_simp; (with_reducible rfl); try simp only [Act.put, List.setIfInBounds_toArray, List.set_cons_zero, List.set_cons_succ]) | (refine lin_skip3 (by rfl) ?_; try simp only [Act.put, List.setIfInBounds_toArray, List.set_cons_zero, List.set_cons_succ]))
          refine lin_nil ?_
          clear hwd hxd K0 q0 HX13
          go_wp2_with fail
          go_ret
          exact ⟨ret_bool (by rw [hv.out]; rfl), HX3.out⟩
      · have hln' : ¬ ((k : Int) < (n : Int)) := by omega
        have hv : Hid (headOk B = true) := Lib.hid (headOk_good (fun j c d h h1 h2 => HJ.out j c d (by
          have := (List.getElem?_eq_some_iff.1 h1).1
          have := Hlen.out
          omega) h1 h2))
        go_wp2_with fail
        go_ret
        exact ⟨ret_bool (by rw [hv.out]; rfl), HX.out⟩
    · have hk4' : ¬ ((k : Int) < 4) := by omega
      have hv : Hid (headOk B = true) := Lib.hid (headOk_good (fun j c d h h1 h2 => HJ.out j c d (by omega) h1 h2))
      go_wp2_with fail
      go_ret
      exact ⟨ret_bool (by rw [hv.out]; rfl), HX.out⟩
theorem rdone_any (r : Nat) (A : Option Addr) (n c : Nat) (B : Bs) (f t : Nat) (a : Bs) (torn whole : Bool) (w : World) (hr : RfAt w r A n c B f t a torn whole) :
    Calls Tryd.prog 23 #[.pointer (some ⟨r, 0, none⟩)] w fun e w' => e = .returned (.bool (whole && !torn)) ∧ w = w' := by
  obtain ⟨d0, d1, d2, d3, d4, d5, f0⟩ := hr.cells
  clear hr f0
  cases whole
  all_goals
    cases torn
    all_goals
      go_enter Tryd.func23, Tryd.ntmps23
      go_wp2_with fail
      go_ret
      exact ⟨rfl, rfl⟩
set_option maxRecDepth 20000 in
theorem rheld_any (r : Nat) (A : Option Addr) (n c : Nat) (B : Bs) (f t : Nat) (a : Bs) (torn whole : Bool) (w : World) (hr : RfAt w r A n c B f t a torn whole) (hn : n ≤ 1073741824) (hf : f ≤ n) :
    Calls Tryd.prog 24 #[.pointer (some ⟨r, 0, none⟩)] w fun e w' => e = .returned (.int .i64 (if torn then 0 else ((n - f : Nat) : Int))) ∧ Ext w w' := by
  have HR := Lib.hid hr
  obtain ⟨d0, d1, d2, d3, d4, d5, f0⟩ := hr.cells
  clear hr f0
  cases torn with
  | true =>
    go_enter Tryd.func24, Tryd.ntmps24
    go_wp2_with fail
    go_ret
    exact ⟨rfl, Ext.refl _⟩
  | false =>
    have K0 : ∀ wx, Ext w wx → wx.cell? ⟨r, 0, none⟩ = some (.slice A n c) := fun wx h => ((HR.out.ext h).cells).1
    have K1 : ∀ wx, Ext w wx → wx.cell? ⟨r, 1, none⟩ = some (.int .i64 (f : Int)) := fun wx h => ((HR.out.ext h).cells).2.1
    have hwr : IntKind.i64.wrap ((n : Int) - (f : Int)) = ((n - f : Nat) : Int) := by rw [IntWalk.i64_in _ (by omega)]; omega
    go_enter Tryd.func24, Tryd.ntmps24
    go_wp2_with fail
    refine region_lin (fun wx => Ext w wx) 100000 [(0, 3), (1, 3), (2, 3), (3, 0), (4, 3), (5, 3), (6, 3), (7, 3), (8, 0), (9, 3), (10, 3)] ?_ (by kernel_rfl) (by kernel_rfl) ?_ (fun _ _ _ _ _ h => h) ((Ext.refl _).drew) ?_
    rotate_left
    (simp only [planOps, List.mapM_cons, List.mapM_nil, List.getElem?_toArray, List.getElem?_cons_zero, List.getElem?_cons_succ, Option.map_some, Option.bind_eq_bind, Option.bind_some, Option.pure_def]; rfl)
    intro wd hwd hxd
    repeat (first | (refine lin_take ?_ (by rfl) (fun wx hx => ?_) ?_; rotate_left; go_simp; (with_reducible rfl); try simp only [Act.put, List.setIfInBounds_toArray, List.set_cons_zero, List.set_cons_succ]) | (refine lin_skip (by rfl) ?_; try simp only [Act.put, List.setIfInBounds_toArray, List.set_cons_zero, List.set_cons_succ]) | (refine lin_take3 ?_ (by rfl) (fun wx hx => ?_) ?_; rotate_left; go_simp; (with_reducible rfl); try simp only [Act.put, List.setIfInBounds_toArray, List.set_cons_zero, List.set_cons_succ]) | (refine lin_skip3 (by rfl) ?_; try simp only [Act.put, List.setIfInBounds_toArray, List.set_cons_zero, List.set_cons_succ]))
    refine lin_nil ?_
    clear hwd K0 K1
    go_wp2_with fail
    go_ret
    exact ⟨rfl, hxd⟩
end Go.Proofs.YtcpnnkkfndgpjaaDoor
