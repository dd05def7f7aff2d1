/- The statement ArchiveTurned walked. -/
import Derived.Test.YtcpnnkkfndgpjaaDoorGB
namespace Go.Proofs.YtcpnnkkfndgpjaaDoor
open Go.RowKit

theorem bits_xor_u8 (a b : Nat) (ha : a < 256) (hb : b < 256) : bits .xor .u8 (a : Int) (b : Int) = ((a ^^^ b : Nat) : Int) := by
  have hx : a ^^^ b < 2 ^ 8 := Nat.xor_lt_two_pow (by omega) (by omega)
  have h1 : (BitVec.ofInt 8 (a : Int)).toNat = a := by
    rw [BitVec.ofInt_natCast, BitVec.toNat_ofNat]; exact Nat.mod_eq_of_lt (by omega)
  have h2 : (BitVec.ofInt 8 (b : Int)).toNat = b := by
    rw [BitVec.ofInt_natCast, BitVec.toNat_ofNat]; exact Nat.mod_eq_of_lt (by omega)
  show IntKind.u8.wrap ((BitVec.ofInt 8 (a : Int) ^^^ BitVec.ofInt 8 (b : Int)).toNat : Int) = _
  rw [BitVec.toNat_xor, h1, h2]
  simp only [IntKind.wrap, IntKind.bits, IntKind.signed]
  simp
  omega
/-- A byte turned by something. -/
theorem turn_byte (c : UInt8) (D : Nat) (h1 : 1 ≤ D) (h2 : D < 256) : ∃ d : UInt8, c ≠ d ∧ bits .xor .u8 (c.toNat : Int) (D : Int) = (d.toNat : Int) := by
  have hc := c.toNat_lt
  have hx : c.toNat ^^^ D < 2 ^ 8 := Nat.xor_lt_two_pow (by omega) (by omega)
  have hd : (UInt8.ofNat (c.toNat ^^^ D)).toNat = c.toNat ^^^ D := by rw [UInt8.toNat_ofNat']; exact Nat.mod_eq_of_lt (by omega)
  refine ⟨UInt8.ofNat (c.toNat ^^^ D), fun e => ?_, by rw [bits_xor_u8 _ _ hc h2, hd]⟩
  have e2 := congrArg UInt8.toNat e
  rw [hd] at e2
  have e3 : c.toNat ^^^ (c.toNat ^^^ D) = 0 := by rw [← e2, Nat.xor_self]
  rw [← Nat.xor_assoc, Nat.xor_self, Nat.zero_xor] at e3
  omega
theorem ItSl.part {w : World} {A : Option Addr} {n : Nat} {l1 l2 : List It} (h : ItSl w A n (l1 ++ l2)) : ItSl w A l1.length l1 := by
  refine ⟨rfl, fun hn => ?_⟩
  obtain ⟨b, off, rfl, hb, hc⟩ := h.2 (by have := h.1; rw [List.length_append] at this; omega)
  exact ⟨b, off, rfl, hb, fun k x hk => hc k x (by rw [List.getElem?_append_left (List.getElem?_eq_some_iff.1 hk).1]; exact hk)⟩
theorem slice_head (A : Option Addr) (n c k : Nat) (h : k ≤ c) (w : World) : (Instr.slice 22 (.slice A n c) none (some (.int .i64 (k : Int))) none).run Tryd.prog w = .ok (.slice A k c) w := by
  have he : Tryd.prog.elem 22 = 50 := by kernel_rfl
  rw [run_slice_h (P := Tryd.prog) w 22 A n c (by rw [he]; exact Tryd.underlying22) .i64 (k : Int) (by omega) (by omega), he, Tryd.sizeOf50]
  cases A <;> simp [Result.andThen, sliced, Addr.add]
theorem tmod_range (a : Int) (L : Nat) (h : 0 < L) : -(L : Int) < a.tmod L ∧ a.tmod L < L := by
  have h1 : (a.tmod L).natAbs = a.natAbs % L := by
    rw [Int.natAbs_tmod]; simp
  have h2 := Nat.mod_lt a.natAbs h
  omega
set_option maxRecDepth 20000 in
set_option maxHeartbeats 4000000 in
theorem archiveTurned_walk (A : Option Addr) (n c : Nat) (ls : List It) (a y : Int) (m : Int) (w : World) (hl : ItSl w A n ls) (hcap : n ≤ c) (hk : ∀ x ∈ ls, -128 ≤ x.kind ∧ x.kind ≤ 127) (hs : szN ls ≤ 8388608) (hn : n ≤ 1073741824) (hy1 : 0 ≤ y) (hy2 : y ≤ 255) (hm : w.cell? ⟨0, 0, none⟩ = some (.int .i64 m)) :
    Calls Tryd.prog 6 #[.slice A n c, .int .i64 a, .int .u8 y] w fun e w' => e = .returned (.bool true) ∧ Ext w w' := by
  have HM : Hid (∀ wx, Ext w wx → wx.cell? ⟨0, 0, none⟩ = some (.int .i64 m)) := Lib.hid (fun wx hx => (hx.cell (World.block_lt_of_cell? w _ hm)).trans hm)
  have HL := Lib.hid hl
  have Hl := Lib.hid hl.1
  have HK := Lib.hid hk
  have HS : Hid (True ∧ szN ls ≤ 8388608) := ⟨trivial, hs⟩
  clear hm hl hk hs
  go_enter Tryd.func6, Tryd.ntmps6
  go_wp2_with fail
  refine (works_any m w (HM.out _ (Ext.refl _))).mono ?_
  rintro e w1 ⟨rfl, hx1⟩
  have HX1 := Lib.hid hx1
  clear hx1
  go_wp2_with fail
  refine (beyond_any A n c ls w1 (HL.out.ext HX1.out) HS.out.2 hn).mono ?_
  rintro e w2 ⟨rfl, hx2⟩
  have HX2 := Lib.hid (HX1.out.trans hx2)
  clear hx2
  by_cases h5 : 5000 < n
  · rw [decide_eq_true h5]
    clear h5
    go_wp2_with fail
    refine (works_any m _ (HM.out _ HX2.out)).mono ?_
    rintro e w3 ⟨rfl, hx3⟩
    have HX3 := Lib.hid (HX2.out.trans hx3)
    clear hx3
    go_wp2_with fail
    go_ret
    exact ⟨rfl, HX3.out⟩
  · rw [decide_eq_false h5]
    have hn5 : n ≤ 5000 := by omega
    clear h5
    go_wp2_with fail
    refine (write_any Sp.real Sp.real_ok A n c ls m w2 (HL.out.ext HX2.out) HK.out (by rw [szN_eq]; have := HS.out.2; omega) (by omega) (HM.out _ HX2.out)).mono ?_
    rintro e w3 ⟨v, rfl, hmb⟩
    obtain ⟨⟨b, E, i⟩, hw⟩ : ∃ q, writeN Sp.real ls = q := ⟨_, rfl⟩
    rw [hw] at hmb ⊢
    simp only at hmb ⊢
    have Hw := Lib.hid hw
    have HX3 := Lib.hid (HX2.out.trans hmb.1)
    by_cases hE : E = 0
    · subst hE
      obtain ⟨b1, b2, b3, b4⟩ := writeN_ok Sp.real Hw.out
      have hbl : b.length ≤ 10000000 ∧ 17 ≤ b.length := by
        rw [b3, allB_len]
        have := HS.out.2
        omega
      obtain ⟨hbl1, hbl2⟩ := hbl
      obtain ⟨B, cb, rfl, hby⟩ := hmb.form
      have hcb : b.length ≤ cb := by
        obtain ⟨_, _, hv0, h2, -⟩ := hmb.2.1.form
        injection hv0 with _ _ h3
        omega
      obtain ⟨g, off, rfl, hg, hcells⟩ := hby.2 (by omega)
      have hgw : w.heap.size ≤ g := Nat.le_trans HX2.out.size (hmb.2.2 g rfl)
      obtain ⟨cur, hcur⟩ := hmb.2.1.ty (k := g) rfl
      have hfz : w3.frozen? ⟨g, 0, none⟩ = false := hmb.2.1.frozen rfl 0
      obtain ⟨hr1, hr2⟩ := tmod_range a b.length (by omega)
      have Hbad := Lib.hid b1
      have Hlen := Lib.hid b2
      have Hb3 := Lib.hid b3
      have Hcells := Lib.hid hcells
      have Hcur := Lib.hid hcur
      have hfr : ∀ o, w3.frozen? ⟨g, o, none⟩ = false := fun o => by simp [World.frozen?, hcur]
      have Hfr := Lib.hid hfr
      obtain ⟨L, hL⟩ : ∃ L, b.length = L := ⟨_, rfl⟩
      rw [hL] at hbl1 hbl2 hcb hr1 hr2 ⊢
      have HLn := Lib.hid hL
      obtain ⟨R, hR⟩ : ∃ R, a.tmod (L : Int) = R := ⟨_, rfl⟩
      rw [hR] at hr1 hr2
      have hRw : IntKind.i64.wrap R = R := IntWalk.i64_in _ (by omega)
      obtain ⟨j, hj, hjl⟩ : ∃ j : Nat, (j : Int) = (if R < 0 then R + L else R) ∧ j < L := by
        by_cases h : R < 0
        · exact ⟨(R + L).toNat, by rw [if_pos h]; omega, by omega⟩
        · exact ⟨R.toNat, by rw [if_neg h]; omega, by omega⟩
      obtain ⟨ch, hch⟩ : ∃ ch, b[j]? = some ch := ⟨_, List.getElem?_eq_getElem (by omega)⟩
      obtain ⟨D, hD⟩ : ∃ D : Nat, max y 1 = (D : Int) := ⟨(max y 1).toNat, by omega⟩
      obtain ⟨d, hd1, hd2⟩ := turn_byte ch D (by omega) (by omega)
      have hcj := hcells j ch hch
      have hfj := hfr (off + j)
      have Hch := Lib.hid hch
      have Hd1 := Lib.hid hd1
      have HW4 : Hid (Ext w (w3.setCell ⟨g, off + j, none⟩ (.int .u8 (d.toNat : Int)))) := Lib.hid (HX3.out.setCell _ _ hgw)
      have HB4 : Hid (BySl (w3.setCell ⟨g, off + j, none⟩ (.int .u8 (d.toNat : Int))) (some ⟨g, off, none⟩) L (b.take j ++ d :: b.drop (j + 1))) := Lib.hid (by
        have h4 := heap_setCell_at (i := off + j) hcur (.int .u8 (d.toNat : Int))
        refine ⟨by rw [List.length_append, List.length_cons, List.length_take, List.length_drop]; omega, fun _ => ⟨g, off, rfl, by simpa using hg, fun k x hx => ?_⟩⟩
        rw [cell_of_row _ g (off + k) _ 5 (0, 0) h4]
        have hj0 : cur[off + j]? = some (.int .u8 (ch.toNat : Int)) := by rw [← cell_of_row w3 g (off + j) _ 5 (0, 0) hcur]; exact hcj
        have hjs := (Array.getElem?_eq_some_iff.1 hj0).1
        by_cases hkj : k = j
        · subst hkj
          rw [List.getElem?_append_right (by rw [List.length_take]; omega)] at hx
          have e0 : k - (b.take k).length = 0 := by rw [List.length_take]; omega
          rw [e0] at hx
          cases hx
          simp [hjs]
        · rw [Array.getElem?_setIfInBounds_ne (by omega)]
          rw [← cell_of_row w3 g (off + k) _ 5 (0, 0) hcur]
          refine hcells k x ?_
          by_cases hlt : k < j
          · rw [List.getElem?_append_left (by rw [List.length_take]; omega), List.getElem?_take_of_lt hlt] at hx
            exact hx
          · rw [List.getElem?_append_right (by rw [List.length_take]; omega), List.length_take, Nat.min_eq_left (by omega)] at hx
            obtain ⟨i', hi'⟩ : ∃ i', k - j = i' + 1 := ⟨k - j - 1, by omega⟩
            rw [hi', List.getElem?_cons_succ, List.getElem?_drop] at hx
            rw [← hx]
            congr 1
            omega)
      clear hby hcells hcur hfr hfz hw hmb b1 b2 b3 b4 hch hd1 hL
      by_cases hneg : R < 0
      · rw [if_pos hneg] at hj
        have hj' : R + (L : Int) = (j : Int) := hj.symm
        clear hj
        go_wp2_with fail
        refine (read_any Sp.real Sp.real_ok (some ⟨g, off, none⟩) none L cb 0 0 (b.take j ++ d :: b.drop (j + 1)) [] m _ HB4.out (U16Sl.nil _) hcb (by omega) (by decide) (HM.out _ HW4.out)).mono ?_
        rintro e w5 ⟨vs, q, LA, lc, hru, rfl, hit, hx5⟩
        have hbe : allB Sp.real ls = b.take j ++ ch :: b.drop (j + 1) := by
          rw [← Hb3.out]
          obtain ⟨h1, h2⟩ := List.getElem?_eq_some_iff.1 Hch.out
          rw [← h2, ← List.drop_eq_getElem_cons h1, List.take_append_drop]
        obtain ⟨l1, l2, h12, hrt⟩ := read_turned Sp.real Hbad.out Hlen.out hbe Hd1.out
        obtain ⟨d1, d2⟩ := Runs.det _ hru hrt
        subst d2
        have HX5 := Lib.hid (HW4.out.trans hx5)
        have HT5 : Hid (ItSl w5 LA vs.length l1) := Lib.hid (by have := hit.sl; rwa [d1] at this)
        have hvl : vs.length = l1.length := by have := congrArg List.length d1; simpa using this
        have HA5 : Hid (ItSl w5 A vs.length l1) := Lib.hid (by
          have h := HL.out.ext HX5.out
          rw [h12] at h
          rw [hvl]; exact h.part)
        have hvn : vs.length ≤ n := by
          have h1 := Hl.out
          rw [h12, List.length_append] at h1
          omega
        have hsl := slice_head A n c vs.length (by omega)
        have hvn' : (vs.length : Int) ≤ (n : Int) := by omega
        have hin : (none : Option Rd).isNone = true := rfl
        have hdq : doneQ (none : Option Rd) = false := rfl
        rw [hin, hdq]
        clear hru hrt hit hx5 hbe h12 d1 hvl hin hdq
        go_wp2_with fail
        refine (same_yes LA A vs.length lc vs.length c l1 w5 HT5.out HA5.out (by omega)).mono ?_
        rintro e w6 ⟨rfl, hx6⟩
        have HX6 := Lib.hid (HX5.out.trans hx6)
        clear hx6 hsl
        go_wp2_with fail
        go_ret
        exact ⟨rfl, HX6.out⟩
      · rw [if_neg hneg] at hj
        obtain rfl : R = (j : Int) := hj.symm
        clear hj
        go_wp2_with fail
        refine (read_any Sp.real Sp.real_ok (some ⟨g, off, none⟩) none L cb 0 0 (b.take j ++ d :: b.drop (j + 1)) [] m _ HB4.out (U16Sl.nil _) hcb (by omega) (by decide) (HM.out _ HW4.out)).mono ?_
        rintro e w5 ⟨vs, q, LA, lc, hru, rfl, hit, hx5⟩
        have hbe : allB Sp.real ls = b.take j ++ ch :: b.drop (j + 1) := by
          rw [← Hb3.out]
          obtain ⟨h1, h2⟩ := List.getElem?_eq_some_iff.1 Hch.out
          rw [← h2, ← List.drop_eq_getElem_cons h1, List.take_append_drop]
        obtain ⟨l1, l2, h12, hrt⟩ := read_turned Sp.real Hbad.out Hlen.out hbe Hd1.out
        obtain ⟨d1, d2⟩ := Runs.det _ hru hrt
        subst d2
        have HX5 := Lib.hid (HW4.out.trans hx5)
        have HT5 : Hid (ItSl w5 LA vs.length l1) := Lib.hid (by have := hit.sl; rwa [d1] at this)
        have hvl : vs.length = l1.length := by have := congrArg List.length d1; simpa using this
        have HA5 : Hid (ItSl w5 A vs.length l1) := Lib.hid (by
          have h := HL.out.ext HX5.out
          rw [h12] at h
          rw [hvl]; exact h.part)
        have hvn : vs.length ≤ n := by
          have h1 := Hl.out
          rw [h12, List.length_append] at h1
          omega
        have hsl := slice_head A n c vs.length (by omega)
        have hvn' : (vs.length : Int) ≤ (n : Int) := by omega
        have hin : (none : Option Rd).isNone = true := rfl
        have hdq : doneQ (none : Option Rd) = false := rfl
        rw [hin, hdq]
        clear hru hrt hit hx5 hbe h12 d1 hvl hin hdq
        go_wp2_with fail
        refine (same_yes LA A vs.length lc vs.length c l1 w5 HT5.out HA5.out (by omega)).mono ?_
        rintro e w6 ⟨rfl, hx6⟩
        have HX6 := Lib.hid (HX5.out.trans hx6)
        clear hx6 hsl
        go_wp2_with fail
        go_ret
        exact ⟨rfl, HX6.out⟩
    · obtain ⟨B, cb, rfl, hby⟩ := hmb.form
      obtain ⟨b1, b2⟩ := writeN_bad Sp.real Hw.out hE
      subst b1
      have hE' : (E == 0) = false := beq_eq_false_iff_ne.2 hE
      clear hE b2 hw hmb hby
      go_wp2_with fail
      go_ret
      exact ⟨rfl, HX3.out⟩
end Go.Proofs.YtcpnnkkfndgpjaaDoor
