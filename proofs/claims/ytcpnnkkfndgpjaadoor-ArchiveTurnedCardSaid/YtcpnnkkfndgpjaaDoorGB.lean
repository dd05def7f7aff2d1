/- The statements ArchiveBack, ArchivePieces, walked. -/
import Derived.Test.YtcpnnkkfndgpjaaDoorFF
namespace Go.Proofs.YtcpnnkkfndgpjaaDoor
open Go.RowKit

theorem ItMine.sl {w0 w : World} {A : Option Addr} {c : Nat} {vs : List IV} (h : ItMine w0 w (.slice A vs.length c) vs) : ItSl w A vs.length (vs.map (·.x)) := by
  refine ⟨by rw [List.length_map], fun hn => ?_⟩
  obtain ⟨A', cap, hv, -, hp⟩ := h.row.form
  injection hv with h1
  subst h1
  obtain ⟨g, off, rfl, hg⟩ := hp hn
  refine ⟨g, off, rfl, hg, fun k x hk => ?_⟩
  rw [List.getElem?_map, Option.map_eq_some_iff] at hk
  obtain ⟨i, hi, rfl⟩ := hk
  have key : ∀ (vs : List IV) (k : Nat) (i : IV), vs[k]? = some i → (itv vs)[k * 3]? = some (.string (mkB i.x.path)) ∧ (itv vs)[k * 3 + 1]? = some (.int .i8 i.x.kind) ∧ (itv vs)[k * 3 + 2]? = some i.dat := by
    intro vs
    induction vs with
    | nil => intro k i h; cases h
    | cons a vs ih =>
      intro k i h
      cases k with
      | zero => cases h; exact ⟨rfl, rfl, rfl⟩
      | succ k =>
        obtain ⟨h1, h2, h3⟩ := ih k i h
        have e : itv (a :: vs) = [.string (mkB a.x.path), .int .i8 a.x.kind, a.dat] ++ itv vs := rfl
        rw [e, show (k + 1) * 3 = k * 3 + 3 from by omega]
        refine ⟨?_, ?_, ?_⟩
        · rw [List.getElem?_append_right (by simp)]; exact h1
        · rw [List.getElem?_append_right (by simp <;> omega)]; simpa using h2
        · rw [List.getElem?_append_right (by simp <;> omega)]; simpa using h3
  obtain ⟨k1, k2, k3⟩ := key vs k i hi
  have c1 := h.row.cells rfl _ _ k1
  have c2 := h.row.cells rfl _ _ k2
  have c3 := h.row.cells rfl _ _ k3
  exact ⟨c1, by rw [Nat.add_assoc]; exact c2, i.D, i.dc, by rw [Nat.add_assoc]; exact c3, (h.dat i (List.mem_of_getElem? hi)).bytes rfl⟩
theorem badAt_kinds {Z : Sp} : ∀ (l : List It) (a : Bs) (i : Nat), badAt Z a i l = none → ∀ x ∈ l, -128 ≤ x.kind ∧ x.kind ≤ 127
  | [], _, _, _, _, h => by cases h
  | y :: l, a, i, h, x, hx => by
    unfold badAt at h
    split at h
    · rename_i hv
      rcases List.mem_cons.1 hx with rfl | hx
      · obtain ⟨-, h2, -⟩ := verdict_zero Z hv
        have := holds_kinds (show 0 ≤ holdsN x.kind by omega)
        omega
      · exact badAt_kinds l _ _ h x hx
    · cases h
theorem U16Sl.ext {w w' : World} {C : Option Addr} {n : Nat} {cs : List Nat} (h : U16Sl w C n cs) (hx : Ext w w') : U16Sl w' C n cs := by
  refine ⟨h.1, fun hn => ?_⟩
  obtain ⟨b, off, rfl, hb, hc⟩ := h.2 hn
  exact ⟨b, off, rfl, Nat.lt_of_lt_of_le hb hx.size, fun k y hk => ⟨(hx.cell hb).trans (hc k y hk).1, (hc k y hk).2⟩⟩
theorem szN_eq (ls : List It) : (ls.map fun x => x.path.length + x.data.length).sum = szN ls := rfl
set_option maxRecDepth 20000 in
set_option maxHeartbeats 4000000 in
theorem archiveBack_walk (A C : Option Addr) (n c nc cc : Nat) (ls : List It) (cs : List Nat) (m : Int) (w : World) (hl : ItSl w A n ls) (hk : ∀ x ∈ ls, -128 ≤ x.kind ∧ x.kind ≤ 127) (hs : szN ls ≤ 8388608) (hn : n ≤ 1073741824) (hc : U16Sl w C nc cs) (hnc : nc ≤ 1073741824) (hm : w.cell? ⟨0, 0, none⟩ = some (.int .i64 m)) :
    Calls Tryd.prog 4 #[.slice A n c, .slice C nc cc] w fun e w' => e = .returned (.bool true) ∧ Ext w w' := by
  have HM : Hid (∀ wx, Ext w wx → wx.cell? ⟨0, 0, none⟩ = some (.int .i64 m)) := Lib.hid (fun wx hx => (hx.cell (World.block_lt_of_cell? w _ hm)).trans hm)
  have HL := Lib.hid hl
  have Hl := Lib.hid hl.1
  have HK := Lib.hid hk
  have HS : Hid (True ∧ szN ls ≤ 8388608) := ⟨trivial, hs⟩
  have HC := Lib.hid hc
  clear hm hl hk hs hc
  go_enter Tryd.func4, Tryd.ntmps4
  go_wp2_with fail
  refine (works_any m w (HM.out _ (Ext.refl _))).mono ?_
  rintro e w1 ⟨rfl, hx1⟩
  have HX1 := Lib.hid hx1
  clear hx1
  go_wp2_with fail
  refine (beyond_any A n c ls w1 (HL.out.ext HX1.out) HS.out.2 hn).mono ?_
  rintro e w2 ⟨rfl, hx2⟩
  have HX2 := Lib.hid (HX1.out.trans hx2)
  clear hx2
  by_cases h5 : 5000 < n
  · rw [decide_eq_true h5]
    clear h5
    go_wp2_with fail
    refine (works_any m _ (HM.out _ HX2.out)).mono ?_
    rintro e w3 ⟨rfl, hx3⟩
    have HX3 := Lib.hid (HX2.out.trans hx3)
    clear hx3
    go_wp2_with fail
    go_ret
    exact ⟨rfl, HX3.out⟩
  · rw [decide_eq_false h5]
    by_cases h3 : 300 < nc
    · have h3' : (300 : Int) < (nc : Int) := by omega
      clear h5 h3
      go_wp2_with fail
      refine (works_any m _ (HM.out _ HX2.out)).mono ?_
      rintro e w3 ⟨rfl, hx3⟩
      have HX3 := Lib.hid (HX2.out.trans hx3)
      clear hx3
      go_wp2_with fail
      go_ret
      exact ⟨rfl, HX3.out⟩
    · have h3' : ¬ (300 : Int) < (nc : Int) := by omega
      have hn5 : n ≤ 5000 := by omega
      have hnc3 : nc ≤ 300 := by omega
      clear h5 h3
      go_wp2_with fail
      refine (write_any Sp.real Sp.real_ok A n c ls m w2 (HL.out.ext HX2.out) HK.out (by rw [szN_eq]; have := HS.out.2; omega) (by omega) (HM.out _ HX2.out)).mono ?_
      rintro e w3 ⟨v, rfl, hmb⟩
      obtain ⟨⟨b, E, i⟩, hw⟩ : ∃ q, writeN Sp.real ls = q := ⟨_, rfl⟩
      rw [hw] at hmb ⊢
      simp only at hmb ⊢
      have Hw := Lib.hid hw
      have HX3 := Lib.hid (HX2.out.trans hmb.1)
      obtain ⟨B, cb, rfl, hby⟩ := hmb.form
      have hcb : b.length ≤ cb := by
        obtain ⟨_, _, hv0, h2, -⟩ := hmb.2.1.form
        injection hv0 with _ _ h3
        omega
      have Hby := Lib.hid hby
      clear hw hmb hby
      by_cases hE : E = 0
      · subst hE
        obtain ⟨b1, b2, b3, b4⟩ := writeN_ok Sp.real Hw.out
        have hbl : b.length ≤ 10000000 := by
          rw [b3, allB_len]
          have := HS.out.2
          omega
        obtain ⟨q0, q1, q2, q3, q4⟩ := read_all Sp.real b1 b2
        rw [← b3] at q1
        have Q1 := Lib.hid q1
        have Q2 := Lib.hid q2
        obtain ⟨L, hL⟩ : ∃ L, b.length = L := ⟨_, rfl⟩
        rw [hL] at Hby hcb hbl ⊢
        clear b1 b2 b3 b4 q1 q2 q3 q4 hL
        go_wp2_with fail
        refine (read_any Sp.real Sp.real_ok B C L cb nc cc b cs m w3 Hby.out (HC.out.ext HX3.out) hcb (by omega) (by omega) (HM.out _ HX3.out)).mono ?_
        rintro e w4 ⟨vs, q, LA, lc, hru, rfl, hit, hx4⟩
        obtain ⟨d1, d2⟩ := Runs.det _ hru Q1.out
        subst d2
        have Hvs := Lib.hid d1
        have HX4 := Lib.hid (HX3.out.trans hx4)
        have HT4 := Lib.hid hit.sl
        have hdq : doneQ (some q0) = true := Q2.out
        have hin : (some q0 : Option Rd).isNone = false := rfl
        rw [hdq, hin]
        have hvl : vs.length ≤ 5000 := by
          have := congrArg List.length d1
          rw [List.length_map, ← Hl.out] at this
          omega
        clear hru d1 hx4 hit hdq hin
        go_wp2_with fail
        refine (same_yes LA A vs.length lc n c ls w4 (by have := HT4.out; rwa [Hvs.out] at this) (HL.out.ext HX4.out) (by omega)).mono ?_
        rintro e w5 ⟨rfl, hx5⟩
        have HX5 := Lib.hid (HX4.out.trans hx5)
        clear hx5
        go_wp2_with fail
        go_ret
        exact ⟨rfl, HX5.out⟩
      · obtain ⟨b1, b2⟩ := writeN_bad Sp.real Hw.out hE
        subst b1
        have hE' : (E == 0) = false := beq_eq_false_iff_ne.2 hE
        have hi : (i : Int) ≤ (n : Int) := by rw [Hl.out]; omega
        clear hE b2
        go_wp2_with fail
        go_ret
        exact ⟨rfl, HX3.out⟩
set_option maxRecDepth 20000 in
set_option maxHeartbeats 4000000 in
theorem archivePieces_walk (B C : Option Addr) (n c nc cc : Nat) (l : Bs) (cs : List Nat) (m : Int) (w : World) (hl : BySl w B n l) (hcap : n ≤ c) (hn : n ≤ 1073741824) (hc : U16Sl w C nc cs) (hnc : nc ≤ 1073741824) (hm : w.cell? ⟨0, 0, none⟩ = some (.int .i64 m)) :
    Calls Tryd.prog 5 #[.slice B n c, .slice C nc cc] w fun e w' => e = .returned (.bool true) ∧ Ext w w' := by
  have HM : Hid (∀ wx, Ext w wx → wx.cell? ⟨0, 0, none⟩ = some (.int .i64 m)) := Lib.hid (fun wx hx => (hx.cell (World.block_lt_of_cell? w _ hm)).trans hm)
  have HL := Lib.hid hl
  have HC := Lib.hid hc
  clear hm hl hc
  go_enter Tryd.func5, Tryd.ntmps5
  go_wp2_with fail
  refine (works_any m w (HM.out _ (Ext.refl _))).mono ?_
  rintro e w2 ⟨rfl, hx2⟩
  have HX2 := Lib.hid hx2
  clear hx2
  by_cases h5 : 65536 < n
  · have h5' : (65536 : Int) < (n : Int) := by omega
    clear h5
    go_wp2_with fail
    refine (works_any m _ (HM.out _ HX2.out)).mono ?_
    rintro e w3 ⟨rfl, hx3⟩
    have HX3 := Lib.hid (HX2.out.trans hx3)
    clear hx3
    go_wp2_with fail
    go_ret
    exact ⟨rfl, HX3.out⟩
  · have h5' : ¬ (65536 : Int) < (n : Int) := by omega
    by_cases h3 : 300 < nc
    · have h3' : (300 : Int) < (nc : Int) := by omega
      clear h5 h3
      go_wp2_with fail
      refine (works_any m _ (HM.out _ HX2.out)).mono ?_
      rintro e w3 ⟨rfl, hx3⟩
      have HX3 := Lib.hid (HX2.out.trans hx3)
      clear hx3
      go_wp2_with fail
      go_ret
      exact ⟨rfl, HX3.out⟩
    · have h3' : ¬ (300 : Int) < (nc : Int) := by omega
      have hn5 : n ≤ 65536 := by omega
      have hnc3 : nc ≤ 300 := by omega
      clear h5 h3
      go_wp2_with fail
      refine (read_any Sp.real Sp.real_ok B none n c 0 0 l [] m w2 (HL.out.ext HX2.out) (U16Sl.nil _) hcap (by omega) (by decide) (HM.out _ HX2.out)).mono ?_
      rintro e w4 ⟨vs, q, LA, lc, hru, rfl, hit, hx4⟩
      have HR := Lib.hid hru
      have HX4 := Lib.hid (HX2.out.trans hx4)
      have HT := Lib.hid hit.sl
      have hvl : vs.length ≤ 65536 := by
        have h1 := (runs_cap hru).1
        rw [List.length_map] at h1
        have h2 : (Rd.new.on l).b.length = n := HL.out.1.symm
        omega
      obtain ⟨tn, htn⟩ : ∃ t, q.isNone = t := ⟨_, rfl⟩
      obtain ⟨dn, hdn⟩ : ∃ t, doneQ q = t := ⟨_, rfl⟩
      rw [htn, hdn]
      have Htn := Lib.hid htn
      have Hdn := Lib.hid hdn
      clear hru hx4 hit htn hdn
      go_wp2_with fail
      refine (read_any Sp.real Sp.real_ok B C n c nc cc l cs m w4 (HL.out.ext HX4.out) (HC.out.ext HX4.out) hcap (by omega) (by omega) (HM.out _ HX4.out)).mono ?_
      rintro e w5 ⟨vs2, q2, LA2, lc2, hru2, rfl, hit2, hx5⟩
      obtain ⟨d1, d2⟩ := Runs.det _ hru2 HR.out
      subst d2
      rw [Htn.out, Hdn.out]
      have Hvs := Lib.hid d1
      have HX5 := Lib.hid (HX4.out.trans hx5)
      have HT1 := Lib.hid (HT.out.ext hx5)
      have HT2 : Hid (ItSl w5 LA2 vs2.length (vs.map (·.x))) := Lib.hid (by have := hit2.sl; rwa [d1] at this)
      have hvl2 : vs2.length = vs.length := by have := congrArg List.length d1; simpa using this
      have Hvl2 := Lib.hid hvl2
      clear hru2 d1 hit2 hx5 HT hvl2
      cases tn with
      | true =>
        have hd : dn = false := by
          cases q2 with
          | none => exact Hdn.out.symm
          | some y => have := Htn.out; cases this
        subst hd
        go_wp2_with fail
        refine (same_yes LA LA2 vs.length lc vs2.length lc2 (vs.map (·.x)) w5 HT1.out HT2.out (by omega)).mono ?_
        rintro e w6 ⟨rfl, hx6⟩
        have HX6 := Lib.hid (HX5.out.trans hx6)
        clear hx6
        go_wp2_with fail
        go_ret
        exact ⟨rfl, HX6.out⟩
      | false =>
        cases dn with
        | false =>
          go_wp2_with fail
          refine (same_yes LA LA2 vs.length lc vs2.length lc2 (vs.map (·.x)) w5 HT1.out HT2.out (by omega)).mono ?_
          rintro e w6 ⟨rfl, hx6⟩
          have HX6 := Lib.hid (HX5.out.trans hx6)
          clear hx6
          go_wp2_with fail
          go_ret
          exact ⟨rfl, HX6.out⟩
        | true =>
          obtain ⟨y, rfl⟩ : ∃ y, q2 = some y := by
            cases q2 with
            | none => have := Htn.out; cases this
            | some y => exact ⟨y, rfl⟩
          have hw := write_back Sp.real HR.out Hdn.out
          have Hw := Lib.hid hw
          obtain ⟨b1, b2, b3, -⟩ := writeN_ok Sp.real hw
          have hk := badAt_kinds _ _ _ b1
          have hsz : szN (vs.map (·.x)) ≤ 65536 := by
            have h1 := congrArg List.length b3
            rw [allB_len, ← HL.out.1] at h1
            omega
          have HK := Lib.hid hk
          have HSz : Hid (True ∧ szN (vs.map (·.x)) ≤ 65536) := ⟨trivial, hsz⟩
          clear hw b1 b2 b3 hk hsz
          go_wp2_with fail
          refine (same_yes LA LA2 vs.length lc vs2.length lc2 (vs.map (·.x)) w5 HT1.out HT2.out (by omega)).mono ?_
          rintro e w6 ⟨rfl, hx6⟩
          have HX6 := Lib.hid (HX5.out.trans hx6)
          have HT6 := Lib.hid (HT1.out.ext hx6)
          clear hx6
          go_wp2_with fail
          refine (write_any Sp.real Sp.real_ok LA vs.length lc (vs.map (·.x)) m w6 HT6.out HK.out (by rw [szN_eq]; have := HSz.out.2; omega) (by omega) (HM.out _ HX6.out)).mono ?_
          rintro e w7 ⟨v, rfl, hmb⟩
          rw [Hw.out] at hmb ⊢
          simp only at hmb ⊢
          have HX7 := Lib.hid (HX6.out.trans hmb.1)
          obtain ⟨B7, cb, rfl, hby⟩ := hmb.form
          have Hby := Lib.hid hby
          clear hmb hby
          go_wp2_with fail
          refine (equal_any B7 B _ _ _ _ l l w7 Hby.out (HL.out.ext HX7.out)).mono ?_
          rintro e w8 ⟨rfl, rfl⟩
          rw [beq_self_eq_true]
          go_wp2_with fail
          go_ret
          exact ⟨rfl, HX7.out⟩
end Go.Proofs.YtcpnnkkfndgpjaaDoor
