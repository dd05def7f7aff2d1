/- The statement ArchiveBack walked, for all items. -/
import Derived.Test.YtcpnnkkfndgpjaaDoorGB
import Derived.Test.YtcpnnkkfndgpjaaDoorBA
namespace Go.Proofs.YtcpnnkkfndgpjaaDoor
open Go.RowKit

set_option maxRecDepth 20000 in
set_option maxHeartbeats 4000000 in
theorem archiveBack_all (A C : Option Addr) (n c nc cc : Nat) (ls : List It) (cs : List Nat) (m : Int) (w : World) (hl : ItSl w A n ls) (hk : ∀ x ∈ ls, -128 ≤ x.kind ∧ x.kind ≤ 127) (hb : ∀ x ∈ ls, x.path.length < 140737488355328 ∧ x.data.length < 140737488355328) (hn : n < 140737488355328) (hc : U16Sl w C nc cs) (hm : w.cell? ⟨0, 0, none⟩ = some (.int .i64 m)) :
    Calls Tryd.prog 4 #[.slice A n c, .slice C nc cc] w fun e w' => e = .returned (.bool true) ∧ Ext w w' := by
  have HM : Hid (∀ wx, Ext w wx → wx.cell? ⟨0, 0, none⟩ = some (.int .i64 m)) := Lib.hid (fun wx hx => (hx.cell (World.block_lt_of_cell? w _ hm)).trans hm)
  have HL := Lib.hid hl
  have Hl := Lib.hid hl.1
  have HK := Lib.hid hk
  have HBs := Lib.hid hb
  have HC := Lib.hid hc
  clear hm hl hk hb hc
  go_enter Tryd.func4, Tryd.ntmps4
  go_wp2_with fail
  refine (works_any m w (HM.out _ (Ext.refl _))).mono ?_
  rintro e w1 ⟨rfl, hx1⟩
  have HX1 := Lib.hid hx1
  clear hx1
  go_wp2_with fail
  refine (beyond_all A n c ls w1 (HL.out.ext HX1.out) HBs.out hn).mono ?_
  rintro e w2 ⟨rfl, hx2⟩
  have HX2 := Lib.hid (HX1.out.trans hx2)
  clear hx2
  clear HBs hn
  by_cases h5 : 8388608 < szN ls ∨ 5000 < n
  · rw [decide_eq_true h5]
    clear h5
    go_wp2_with fail
    refine (works_any m _ (HM.out _ HX2.out)).mono ?_
    rintro e w3 ⟨rfl, hx3⟩
    have HX3 := Lib.hid (HX2.out.trans hx3)
    clear hx3
    go_wp2_with fail
    go_ret
    exact ⟨rfl, HX3.out⟩
  · rw [decide_eq_false h5]
    by_cases h3 : 300 < nc
    · have h3' : (300 : Int) < (nc : Int) := by omega
      clear h5 h3
      go_wp2_with fail
      refine (works_any m _ (HM.out _ HX2.out)).mono ?_
      rintro e w3 ⟨rfl, hx3⟩
      have HX3 := Lib.hid (HX2.out.trans hx3)
      clear hx3
      go_wp2_with fail
      go_ret
      exact ⟨rfl, HX3.out⟩
    · have h3' : ¬ (300 : Int) < (nc : Int) := by omega
      have hn5 : n ≤ 5000 := by omega
      have hn : n ≤ 1073741824 := by omega
      have HS : Hid (True ∧ szN ls ≤ 8388608) := Lib.hid ⟨trivial, by omega⟩
      have hnc3 : nc ≤ 300 := by omega
      clear h5 h3
      go_wp2_with fail
      refine (write_any Sp.real Sp.real_ok A n c ls m w2 (HL.out.ext HX2.out) HK.out (by rw [szN_eq]; have := HS.out.2; omega) (by omega) (HM.out _ HX2.out)).mono ?_
      rintro e w3 ⟨v, rfl, hmb⟩
      obtain ⟨⟨b, E, i⟩, hw⟩ : ∃ q, writeN Sp.real ls = q := ⟨_, rfl⟩
      rw [hw] at hmb ⊢
      simp only at hmb ⊢
      have Hw := Lib.hid hw
      have HX3 := Lib.hid (HX2.out.trans hmb.1)
      obtain ⟨B, cb, rfl, hby⟩ := hmb.form
      have hcb : b.length ≤ cb := by
        obtain ⟨_, _, hv0, h2, -⟩ := hmb.2.1.form
        injection hv0 with _ _ h3
        omega
      have Hby := Lib.hid hby
      clear hw hmb hby
      by_cases hE : E = 0
      · subst hE
        obtain ⟨b1, b2, b3, b4⟩ := writeN_ok Sp.real Hw.out
        have hbl : b.length ≤ 10000000 := by
          rw [b3, allB_len]
          have := HS.out.2
          omega
        obtain ⟨q0, q1, q2, q3, q4⟩ := read_all Sp.real b1 b2
        rw [← b3] at q1
        have Q1 := Lib.hid q1
        have Q2 := Lib.hid q2
        obtain ⟨L, hL⟩ : ∃ L, b.length = L := ⟨_, rfl⟩
        rw [hL] at Hby hcb hbl ⊢
        clear b1 b2 b3 b4 q1 q2 q3 q4 hL
        go_wp2_with fail
        refine (read_any Sp.real Sp.real_ok B C L cb nc cc b cs m w3 Hby.out (HC.out.ext HX3.out) hcb (by omega) (by omega) (HM.out _ HX3.out)).mono ?_
        rintro e w4 ⟨vs, q, LA, lc, hru, rfl, hit, hx4⟩
        obtain ⟨d1, d2⟩ := Runs.det _ hru Q1.out
        subst d2
        have Hvs := Lib.hid d1
        have HX4 := Lib.hid (HX3.out.trans hx4)
        have HT4 := Lib.hid hit.sl
        have hdq : doneQ (some q0) = true := Q2.out
        have hin : (some q0 : Option Rd).isNone = false := rfl
        rw [hdq, hin]
        have hvl : vs.length ≤ 5000 := by
          have := congrArg List.length d1
          rw [List.length_map, ← Hl.out] at this
          omega
        clear hru d1 hx4 hit hdq hin
        go_wp2_with fail
        refine (same_yes LA A vs.length lc n c ls w4 (by have := HT4.out; rwa [Hvs.out] at this) (HL.out.ext HX4.out) (by omega)).mono ?_
        rintro e w5 ⟨rfl, hx5⟩
        have HX5 := Lib.hid (HX4.out.trans hx5)
        clear hx5
        go_wp2_with fail
        go_ret
        exact ⟨rfl, HX5.out⟩
      · obtain ⟨b1, b2⟩ := writeN_bad Sp.real Hw.out hE
        subst b1
        have hE' : (E == 0) = false := beq_eq_false_iff_ne.2 hE
        have hi : (i : Int) ≤ (n : Int) := by rw [Hl.out]; omega
        clear hE b2
        go_wp2_with fail
        go_ret
        exact ⟨rfl, HX3.out⟩
end Go.Proofs.YtcpnnkkfndgpjaaDoor
