/- The statement ArchiveWrites walked. -/
import Derived.Test.YtcpnnkkfndgpjaaDoorEA
import Derived.Test.YtcpnnkkfndgpjaaDoorDF
namespace Go.Proofs.YtcpnnkkfndgpjaaDoor
open Go.RowKit

set_option maxRecDepth 20000 in
set_option maxHeartbeats 4000000 in
theorem archiveWrites_walk (A : Option Addr) (n c : Nat) (ls : List It) (m : Int) (w : World) (hl : ItSl w A n ls) (hk : ∀ x ∈ ls, -128 ≤ x.kind ∧ x.kind ≤ 127) (hs : szN ls ≤ 8388608) (hn : n ≤ 1073741824) (hm : w.cell? ⟨0, 0, none⟩ = some (.int .i64 m)) :
    Calls Tryd.prog 3 #[.slice A n c] w fun e w' => e = .returned (.bool true) ∧ Ext w w' := by
  have HM : Hid (∀ wx, Ext w wx → wx.cell? ⟨0, 0, none⟩ = some (.int .i64 m)) := Lib.hid (fun wx hx => (hx.cell (World.block_lt_of_cell? w _ hm)).trans hm)
  have HL := Lib.hid hl
  have Hl := Lib.hid hl.1
  have HK := Lib.hid hk
  have HS : Hid (True ∧ szN ls ≤ 8388608) := ⟨trivial, hs⟩
  clear hm hl hk hs
  go_enter Tryd.func3, Tryd.ntmps3
  go_wp2_with fail
  refine (works_any m w (HM.out _ (Ext.refl _))).mono ?_
  rintro e w1 ⟨rfl, hx1⟩
  have HX1 := Lib.hid hx1
  clear hx1
  go_wp2_with fail
  refine (beyond_any A n c ls w1 (HL.out.ext HX1.out) HS.out.2 hn).mono ?_
  rintro e w2 ⟨rfl, hx2⟩
  have HX2 := Lib.hid (HX1.out.trans hx2)
  clear hx2
  by_cases h5 : 5000 < n
  · rw [decide_eq_true h5]
    clear h5
    go_wp2_with fail
    refine (works_any m _ (HM.out _ HX2.out)).mono ?_
    rintro e w3 ⟨rfl, hx3⟩
    have HX3 := Lib.hid (HX2.out.trans hx3)
    clear hx3
    go_wp2_with fail
    go_ret
    exact ⟨rfl, HX3.out⟩
  · rw [decide_eq_false h5]
    have hn5 : n ≤ 5000 := by omega
    clear h5
    go_wp2_with fail
    refine (twin_any A n c ls w2 (HL.out.ext HX2.out) (by have := HS.out.2; omega) hn).mono ?_
    rintro e w3 ⟨LA, lc, vs, rfl, hvl, hvm, hit, hx3⟩
    have HT3 : Hid (ItSl w3 LA n ls) := Lib.hid (by
      have h1 : ItMine w2 w3 (.slice LA vs.length lc) vs := by rw [hvl]; exact hit
      have := h1.sl
      rwa [hvm, hvl] at this)
    have HX3 := Lib.hid (HX2.out.trans hx3)
    clear hvl hvm hit hx3
    go_wp2_with fail
    refine (write_any Sp.real Sp.real_ok LA n lc ls m w3 HT3.out HK.out (by have := HS.out.2; have := szN_eq ls; omega) (by omega) (HM.out _ HX3.out)).mono ?_
    rintro e w4 ⟨v4, rfl, hm4⟩
    obtain ⟨⟨B, E, I⟩, hw⟩ : ∃ q, writeN Sp.real ls = q := ⟨_, rfl⟩
    have Hw := Lib.hid hw
    rw [hw] at hm4 ⊢
    simp only at hm4 ⊢
    have HM4 := Lib.hid hm4
    have HX4 := Lib.hid (HX3.out.trans hm4.1)
    have HX34 := Lib.hid hm4.1
    have HT4 := Lib.hid (HT3.out.ext hm4.1)
    obtain ⟨A4, c4, rfl, hb4⟩ := hm4.form
    have HB4 := Lib.hid hb4
    clear hw hm4 hb4
    go_wp2_with fail
    refine (write_any Sp.real Sp.real_ok LA n lc ls m w4 HT4.out HK.out (by have := HS.out.2; have := szN_eq ls; omega) (by omega) (HM.out _ HX4.out)).mono ?_
    rintro e w5 ⟨v5, rfl, hm5⟩
    rw [Hw.out] at hm5 ⊢
    simp only at hm5 ⊢
    have HM5 := Lib.hid hm5
    have HX5 := Lib.hid (HX4.out.trans hm5.1)
    have HX45 := Lib.hid hm5.1
    have HT5 := Lib.hid (HT4.out.ext hm5.1)
    obtain ⟨A5, c5, rfl, hb5⟩ := hm5.form
    have HB5 := Lib.hid hb5
    clear hm5 hb5
    go_wp2_with fail
    refine (rwrite_any Sp.real Sp.real_ok A n c ls w5 (HL.out.ext HX5.out) (by have := HS.out.2; omega) (by omega)).mono ?_
    rintro e w6 ⟨v6, rfl, hm6⟩
    rw [Hw.out] at hm6 ⊢
    simp only at hm6 ⊢
    have HM6 := Lib.hid hm6
    have HX6 := Lib.hid (HX5.out.trans hm6.1)
    have HX56 := Lib.hid hm6.1
    have HT6 := Lib.hid (HT5.out.ext hm6.1)
    obtain ⟨A6, c6, rfl, hb6⟩ := hm6.form
    have HB6 := Lib.hid hb6
    clear hm6 hb6
    have hBl : B.length ≤ 20000000 := by
      by_cases hE : E = 0
      · subst hE
        obtain ⟨-, -, b3, -⟩ := writeN_ok Sp.real Hw.out
        rw [b3, allB_len]
        have := HS.out.2
        have := Hl.out
        omega
      · obtain ⟨b1, -⟩ := writeN_bad Sp.real Hw.out hE
        subst b1; simp
    obtain ⟨L, hL⟩ : ∃ L, B.length = L := ⟨_, rfl⟩
    have HLn := Lib.hid hL
    rw [hL] at HB4 HB5 HB6 hBl ⊢
    clear hL
    go_wp2_with fail
    refine (equal_any A4 A6 _ _ _ _ B B w6 ((HB4.out.ext HX45.out).ext HX56.out) HB6.out).mono ?_
    rintro e w7 ⟨rfl, rfl⟩
    rw [beq_self_eq_true]
    go_wp2_with fail
    refine (equal_any A5 A6 _ _ _ _ B B w6 (HB5.out.ext HX56.out) HB6.out).mono ?_
    rintro e w7 ⟨rfl, rfl⟩
    rw [beq_self_eq_true]
    go_wp2_with fail
    refine (same_yes LA A n lc n c ls w6 HT6.out (HL.out.ext HX6.out) hn).mono ?_
    rintro e w7 ⟨rfl, hx7⟩
    have HX7 := Lib.hid (HX6.out.trans hx7)
    have HT7 := Lib.hid (HT6.out.ext hx7)
    have HX47 := Lib.hid ((HX45.out.trans HX56.out).trans hx7)
    have HX57 := Lib.hid (HX56.out.trans hx7)
    have HX67 := Lib.hid hx7
    clear hx7
    go_wp2_with fail
    have hA4 : Hid (∀ k, (Value.slice A4 L c4).ownBlock = some k → w3.heap.size ≤ k ∧ k < w4.heap.size) := Lib.hid (fun k hk => ⟨HM4.out.2.2 k (by rw [HLn.out]; exact hk), by have := HM4.out.2.1.lt k (by rw [HLn.out]; exact hk); exact this⟩)
    have HO7 : Hid (Own w7 5 1 (.slice A4 L c4) L (u8v B)) := Lib.hid (by have := HM4.out.2.1.ext HX47.out; rwa [HLn.out] at this)
    obtain ⟨i5, hi5, hz5, hsz5, hby5⟩ := info_parts Tryd.info5
    go_loopw [70] (fun iv wr => ∃ (k : Nat) (B' : Bs), k ≤ L ∧ iv = .int .i64 (k : Int) ∧ Own wr 5 1 (.slice A4 L c4) L (u8v B') ∧ Mod (fun j => (Value.slice A4 L c4).ownBlock = some j) w7 wr) (fun iv _ => L - (intOf iv).toNat)
    case atStart => exact ⟨0, B, Nat.zero_le _, rfl, HO7.out, Mod.refl _ _⟩
    case round =>
      obtain ⟨k, B', hk, rfl, ho, hmd⟩ := hrel
      have HO := Lib.hid ho
      have HMd := Lib.hid hmd
      clear ho hmd
      by_cases hlt : k < L
      · obtain ⟨g, off, rfl, hg⟩ : ∃ g off, A4 = some ⟨g, off, none⟩ ∧ g < wr.heap.size := by obtain ⟨A', cap, hv, -, hp⟩ := HO.out.form; injection hv with h1; subst h1; exact hp (by omega)
        have hBl' : B'.length = L := by have := HO.out.1; rw [u8v_len] at this; omega
        obtain ⟨u0, hu0⟩ : ∃ u, (u8v B')[k]? = some u := ⟨_, List.getElem?_eq_getElem (by rw [u8v_len]; omega)⟩
        have c0 := HO.out.cells rfl k u0 hu0
        clear hu0
        have f0 := HO.out.frozen rfl (off + k)
        have HO2 : Hid (Own (wr.setCell ⟨g, off + k, none⟩ (.int .u8 77)) 5 1 (.slice (some ⟨g, off, none⟩) L c4) L (u8v (B'.set k 77))) := Lib.hid (by
          have := HO.out.put1 (j := k) (by omega) (.int .u8 ((77 : UInt8).toNat : Int))
          rwa [u8v_set] at this)
        have HMd2 : Hid (Mod (fun j => (Value.slice (some ⟨g, off, none⟩) L c4).ownBlock = some j) w7 (wr.setCell ⟨g, off + k, none⟩ (.int .u8 77))) := Lib.hid (HMd.out.setCell _ _ (fun _ => rfl))
        clear hBl'
        go_wp2_with fail
        go_roundw
        case rel => exact ⟨k + 1, B'.set k 77, by omega, by go_num, HO2.out, HMd2.out⟩
        case measure => simp [intOf]; omega
      · have hLk : ¬ ((k : Int) < (L : Int)) := by omega
        go_wp2_with (at_builtin; refine wpList_append_own_any _ rfl (.tmp 77) (.tmp 78) 26 rfl 5 i5 _ 1 1 Tryd.underlying26 hi5 hz5 hsz5 hby5 rfl (by decide) (.slice A4 L c4) L (u8v B') rfl (HO.out.ext ((Ext.refl _).alloc _)) (some ⟨wr.heap.size, 0, none⟩) 1 1 (u8v [78]) rfl rfl (fun _ => ⟨_, rfl, new_cells _ _ _⟩) (u8v_one [78]) (by unfold maxLen; omega) (by omega) ?_)
        intro v' w9 ho hg hv'
        have hmd9 : Mod (fun j => (Value.slice A4 L c4).ownBlock = some j) w7 w9 := Mod.grown (HMd.out.alloc _) hg (fun k e _ => e)
        have hx9 : Ext w3 w9 := Ext.fresh (HX34.out.trans HX47.out) hmd9 (fun i h => (hA4.out i h).1)
        have HX39 := Lib.hid hx9
        have HX9 := Lib.hid (HX3.out.trans hx9)
        have HT9 := Lib.hid (HT3.out.ext hx9)
        have HL9 := Lib.hid (HL.out.ext (HX3.out.trans hx9))
        have HB59 : Hid (BySl w9 A5 L B) := Lib.hid ((HB5.out.ext HX57.out).mod hmd9 (fun b o e h => by
          have h1 := (hA4.out b h).2
          have h2 := HM5.out.2.2 b (by rw [HLn.out, e]; rfl)
          omega))
        have HB69 : Hid (BySl w9 A6 L B) := Lib.hid ((HB6.out.ext HX67.out).mod hmd9 (fun b o e h => by
          have h1 := (hA4.out b h).2
          have h2 := HM6.out.2.2 b (by rw [HLn.out, e]; rfl)
          have h3 := HX45.out.size
          omega))
        obtain ⟨A9, c9, rfl, -, -⟩ := ho.form
        clear ho hg hv' hmd9 hx9
        go_wp2_with fail
        refine (equal_any A5 A6 _ _ _ _ B B w9 HB59.out HB69.out).mono ?_
        rintro e w10 ⟨rfl, rfl⟩
        rw [beq_self_eq_true]
        go_wp2_with fail
        refine (same_yes LA A n lc n c ls w9 HT9.out HL9.out hn).mono ?_
        rintro e w10 ⟨rfl, hx10⟩
        have HX10 := Lib.hid (HX9.out.trans hx10)
        clear hx10
        go_wp2_with fail
        go_ret
        exact ⟨rfl, HX10.out⟩
end Go.Proofs.YtcpnnkkfndgpjaaDoor
