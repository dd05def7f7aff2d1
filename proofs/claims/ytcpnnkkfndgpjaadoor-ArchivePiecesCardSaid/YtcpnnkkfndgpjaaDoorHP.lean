/- The statement ArchivePieces walked, for all bytes. -/
import Derived.Test.YtcpnnkkfndgpjaaDoorGB
namespace Go.Proofs.YtcpnnkkfndgpjaaDoor
open Go.RowKit

set_option maxRecDepth 20000 in
set_option maxHeartbeats 4000000 in
theorem archivePieces_all (B C : Option Addr) (n c nc cc : Nat) (l : Bs) (cs : List Nat) (m : Int) (w : World) (hl : BySl w B n l) (hcap : n ≤ c) (hc : U16Sl w C nc cs) (hm : w.cell? ⟨0, 0, none⟩ = some (.int .i64 m)) :
    Calls Tryd.prog 5 #[.slice B n c, .slice C nc cc] w fun e w' => e = .returned (.bool true) ∧ Ext w w' := by
  have HM : Hid (∀ wx, Ext w wx → wx.cell? ⟨0, 0, none⟩ = some (.int .i64 m)) := Lib.hid (fun wx hx => (hx.cell (World.block_lt_of_cell? w _ hm)).trans hm)
  have HL := Lib.hid hl
  have HC := Lib.hid hc
  clear hm hl hc
  go_enter Tryd.func5, Tryd.ntmps5
  go_wp2_with fail
  refine (works_any m w (HM.out _ (Ext.refl _))).mono ?_
  rintro e w2 ⟨rfl, hx2⟩
  have HX2 := Lib.hid hx2
  clear hx2
  by_cases h5 : 65536 < n
  · have h5' : (65536 : Int) < (n : Int) := by omega
    clear h5
    go_wp2_with fail
    refine (works_any m _ (HM.out _ HX2.out)).mono ?_
    rintro e w3 ⟨rfl, hx3⟩
    have HX3 := Lib.hid (HX2.out.trans hx3)
    clear hx3
    go_wp2_with fail
    go_ret
    exact ⟨rfl, HX3.out⟩
  · have h5' : ¬ (65536 : Int) < (n : Int) := by omega
    by_cases h3 : 300 < nc
    · have h3' : (300 : Int) < (nc : Int) := by omega
      clear h5 h3
      go_wp2_with fail
      refine (works_any m _ (HM.out _ HX2.out)).mono ?_
      rintro e w3 ⟨rfl, hx3⟩
      have HX3 := Lib.hid (HX2.out.trans hx3)
      clear hx3
      go_wp2_with fail
      go_ret
      exact ⟨rfl, HX3.out⟩
    · have h3' : ¬ (300 : Int) < (nc : Int) := by omega
      have hn5 : n ≤ 65536 := by omega
      have hnc3 : nc ≤ 300 := by omega
      clear h5 h3
      go_wp2_with fail
      refine (read_any Sp.real Sp.real_ok B none n c 0 0 l [] m w2 (HL.out.ext HX2.out) (U16Sl.nil _) hcap (by omega) (by decide) (HM.out _ HX2.out)).mono ?_
      rintro e w4 ⟨vs, q, LA, lc, hru, rfl, hit, hx4⟩
      have HR := Lib.hid hru
      have HX4 := Lib.hid (HX2.out.trans hx4)
      have HT := Lib.hid hit.sl
      have hvl : vs.length ≤ 65536 := by
        have h1 := (runs_cap hru).1
        rw [List.length_map] at h1
        have h2 : (Rd.new.on l).b.length = n := HL.out.1.symm
        omega
      obtain ⟨tn, htn⟩ : ∃ t, q.isNone = t := ⟨_, rfl⟩
      obtain ⟨dn, hdn⟩ : ∃ t, doneQ q = t := ⟨_, rfl⟩
      rw [htn, hdn]
      have Htn := Lib.hid htn
      have Hdn := Lib.hid hdn
      clear hru hx4 hit htn hdn
      go_wp2_with fail
      refine (read_any Sp.real Sp.real_ok B C n c nc cc l cs m w4 (HL.out.ext HX4.out) (HC.out.ext HX4.out) hcap (by omega) (by omega) (HM.out _ HX4.out)).mono ?_
      rintro e w5 ⟨vs2, q2, LA2, lc2, hru2, rfl, hit2, hx5⟩
      obtain ⟨d1, d2⟩ := Runs.det _ hru2 HR.out
      subst d2
      rw [Htn.out, Hdn.out]
      have Hvs := Lib.hid d1
      have HX5 := Lib.hid (HX4.out.trans hx5)
      have HT1 := Lib.hid (HT.out.ext hx5)
      have HT2 : Hid (ItSl w5 LA2 vs2.length (vs.map (·.x))) := Lib.hid (by have := hit2.sl; rwa [d1] at this)
      have hvl2 : vs2.length = vs.length := by have := congrArg List.length d1; simpa using this
      have Hvl2 := Lib.hid hvl2
      clear hru2 d1 hit2 hx5 HT hvl2
      cases tn with
      | true =>
        have hd : dn = false := by
          cases q2 with
          | none => exact Hdn.out.symm
          | some y => have := Htn.out; cases this
        subst hd
        go_wp2_with fail
        refine (same_yes LA LA2 vs.length lc vs2.length lc2 (vs.map (·.x)) w5 HT1.out HT2.out (by omega)).mono ?_
        rintro e w6 ⟨rfl, hx6⟩
        have HX6 := Lib.hid (HX5.out.trans hx6)
        clear hx6
        go_wp2_with fail
        go_ret
        exact ⟨rfl, HX6.out⟩
      | false =>
        cases dn with
        | false =>
          go_wp2_with fail
          refine (same_yes LA LA2 vs.length lc vs2.length lc2 (vs.map (·.x)) w5 HT1.out HT2.out (by omega)).mono ?_
          rintro e w6 ⟨rfl, hx6⟩
          have HX6 := Lib.hid (HX5.out.trans hx6)
          clear hx6
          go_wp2_with fail
          go_ret
          exact ⟨rfl, HX6.out⟩
        | true =>
          obtain ⟨y, rfl⟩ : ∃ y, q2 = some y := by
            cases q2 with
            | none => have := Htn.out; cases this
            | some y => exact ⟨y, rfl⟩
          have hw := write_back Sp.real HR.out Hdn.out
          have Hw := Lib.hid hw
          obtain ⟨b1, b2, b3, -⟩ := writeN_ok Sp.real hw
          have hk := badAt_kinds _ _ _ b1
          have hsz : szN (vs.map (·.x)) ≤ 65536 := by
            have h1 := congrArg List.length b3
            rw [allB_len, ← HL.out.1] at h1
            omega
          have HK := Lib.hid hk
          have HSz : Hid (True ∧ szN (vs.map (·.x)) ≤ 65536) := ⟨trivial, hsz⟩
          clear hw b1 b2 b3 hk hsz
          go_wp2_with fail
          refine (same_yes LA LA2 vs.length lc vs2.length lc2 (vs.map (·.x)) w5 HT1.out HT2.out (by omega)).mono ?_
          rintro e w6 ⟨rfl, hx6⟩
          have HX6 := Lib.hid (HX5.out.trans hx6)
          have HT6 := Lib.hid (HT1.out.ext hx6)
          clear hx6
          go_wp2_with fail
          refine (write_any Sp.real Sp.real_ok LA vs.length lc (vs.map (·.x)) m w6 HT6.out HK.out (by rw [szN_eq]; have := HSz.out.2; omega) (by omega) (HM.out _ HX6.out)).mono ?_
          rintro e w7 ⟨v, rfl, hmb⟩
          rw [Hw.out] at hmb ⊢
          simp only at hmb ⊢
          have HX7 := Lib.hid (HX6.out.trans hmb.1)
          obtain ⟨B7, cb, rfl, hby⟩ := hmb.form
          have Hby := Lib.hid hby
          clear hmb hby
          go_wp2_with fail
          refine (equal_any B7 B _ _ _ _ l l w7 Hby.out (HL.out.ext HX7.out)).mono ?_
          rintro e w8 ⟨rfl, rfl⟩
          rw [beq_self_eq_true]
          go_wp2_with fail
          go_ret
          exact ⟨rfl, HX7.out⟩
end Go.Proofs.YtcpnnkkfndgpjaaDoor
