/- The statement ArchiveKnown walked. -/
import Derived.Test.YtcpnnkkfndgpjaaDoorGK
namespace Go.Proofs.YtcpnnkkfndgpjaaDoor
open Go.RowKit

theorem bys_new (w : World) (l : Bs) : BySl (w.alloc (.cells (u8v l).toArray 5)) (some ⟨w.heap.size, 0, none⟩) l.length l :=
  ⟨rfl, fun _ => ⟨w.heap.size, 0, rfl, by simp, fun k c hk => by
    rw [(Ext.refl _).cell_new]
    simp [u8v, hk]⟩⟩
theorem its_one (w : World) : ItSl ((w.alloc (.cells #[.int .u8 120] 5 (1, 2))).alloc (.cells #[.string ⟨#[97]⟩, .int .i8 1, .slice (some ⟨w.heap.size, 0, none⟩) 1 1] 50)) (some ⟨w.heap.size + 1, 0, none⟩) 1 [⟨[97], 1, [120]⟩] := by
  have e1 : (w.alloc (.cells #[.int .u8 120] 5 (1, 2))).heap.size = w.heap.size + 1 := by simp
  have h := its_new (w.alloc (.cells #[.int .u8 120] 5 (1, 2))) [⟨⟨[97], 1, [120]⟩, some ⟨w.heap.size, 0, none⟩, 1⟩] (fun i hi => by
    obtain rfl := List.mem_singleton.1 hi
    refine ⟨rfl, fun _ => ⟨_, 0, rfl, by simp, fun j ch hj => ?_⟩⟩
    rcases j with _ | j
    · cases hj; exact cell_of_row _ _ 0 _ 5 (1, 2) (heap_alloc_new w _)
    · cases hj)
  rw [e1] at h
  exact h
set_option maxRecDepth 20000 in
set_option maxHeartbeats 8000000 in
theorem archiveKnown_walk (m : Int) (w : World) (hm : w.cell? ⟨0, 0, none⟩ = some (.int .i64 m)) : Calls Tryd.prog 9 #[] w fun e w' => e = .returned (.bool true) ∧ Ext w w' := by
  have HM : Hid (∀ wx, Ext w wx → wx.cell? ⟨0, 0, none⟩ = some (.int .i64 m)) := Lib.hid (fun wx hx => (hx.cell (World.block_lt_of_cell? w _ hm)).trans hm)
  have Hp0 : Hid (0 < w.heap.size) := Lib.hid (World.block_lt_of_cell? w _ hm)
  clear hm
  obtain ⟨X, hmk⟩ := info50_mk
  have Hmk := Lib.hid hmk
  have kc := fun (w : World) (C : Array Value) (n c : Nat) => Lib.run_convert_bytes_const (P := Tryd.prog) w 26 5 C n c Tryd.underlying26 Tryd.underlying5
  have Kc := Lib.hid kc
  clear hmk kc
  go_enter Tryd.func9, Tryd.ntmps9
  go_wp2_with fail
  refine (write_any Sp.real Sp.real_ok none 0 0 [] m w ⟨rfl, fun h => absurd h (by omega)⟩ (fun x hx => by cases hx) (by decide) (by decide) (HM.out _ (Ext.refl _))).mono ?_
  rintro e w1 ⟨v, rfl, hmb⟩
  rw [k_empty] at hmb ⊢
  simp only at hmb ⊢
  have hlen : (allB Sp.real []).length = 17 := by rw [allB_len]; rfl
  obtain ⟨L, hL⟩ : ∃ L, allB Sp.real [] = L := ⟨_, rfl⟩
  rw [hL] at hlen hmb
  have HL := Lib.hid hL
  have HX1 := Lib.hid hmb.1
  obtain ⟨B, cb, rfl, hby⟩ := hmb.form
  have hcb : 17 ≤ cb := by
    obtain ⟨_, _, hv0, h2, -⟩ := hmb.2.1.form
    injection hv0 with _ _ h3
    omega
  rw [hlen] at hby ⊢
  obtain ⟨g, off, rfl, hg⟩ : ∃ g off, B = some ⟨g, off, none⟩ ∧ g < w1.heap.size := by
    obtain ⟨b, o, h1, h2, -⟩ := hby.2 (by decide)
    exact ⟨b, o, h1, h2⟩
  have HB := Lib.hid hby
  clear hmb hby hL hlen hg
  go_wp2_with fail
  -- two items, the second not behind the first
  refine (write_any Sp.real Sp.real_ok _ 2 2 [⟨[98], 0, []⟩, ⟨[97], 0, []⟩] m _ (its_new w1 [⟨⟨[98], 0, []⟩, none, 0⟩, ⟨⟨[97], 0, []⟩, none, 0⟩] (fun i hi => by
    rcases List.mem_cons.1 hi with rfl | hi
    · exact BySl.nil _ _
    · obtain rfl := List.mem_singleton.1 hi; exact BySl.nil _ _)) (fun x hx => by
    rcases List.mem_cons.1 hx with rfl | hx
    · exact ⟨by decide, by decide⟩
    · obtain rfl := List.mem_singleton.1 hx; exact ⟨by decide, by decide⟩) (by decide) (by decide) (HM.out _ (HX1.out.alloc _))).mono ?_
  rintro e w2 ⟨v, rfl, hmb⟩
  rw [k_two] at hmb ⊢
  simp only at hmb ⊢
  have HX2 := Lib.hid ((HX1.out.alloc _).trans hmb.1)
  have HB2 := Lib.hid (HB.out.ext (((Ext.refl _).alloc _).trans hmb.1))
  obtain ⟨B2, cb2, rfl, -⟩ := hmb.form
  clear hmb HB HX1
  go_wp2_with fail
  refine (write_any Sp.real Sp.real_ok _ 1 1 [⟨[97, 47, 46, 46, 47, 98], 0, []⟩] m _ (its_new w2 [⟨⟨[97, 47, 46, 46, 47, 98], 0, []⟩, none, 0⟩] (fun i hi => by
    obtain rfl := List.mem_singleton.1 hi; exact BySl.nil _ _)) (fun x hx => by
    obtain rfl := List.mem_singleton.1 hx; exact ⟨by decide, by decide⟩) (by decide) (by decide) (HM.out _ (HX2.out.alloc _))).mono ?_
  rintro e w3 ⟨v, rfl, hmb⟩
  rw [k_three] at hmb ⊢
  simp only at hmb ⊢
  have HX3 := Lib.hid ((HX2.out.alloc _).trans hmb.1)
  have HB3 := Lib.hid (HB2.out.ext (((Ext.refl _).alloc _).trans hmb.1))
  obtain ⟨B3, cb3, rfl, -⟩ := hmb.form
  clear hmb HB2 HX2
  have kc := Kc.out
  go_wp2_with fail
  clear kc
  refine (write_any Sp.real Sp.real_ok _ 1 1 [⟨[97], 1, [120]⟩] m _ (its_one w3) (fun x hx => by
    obtain rfl := List.mem_singleton.1 hx; exact ⟨by decide, by decide⟩) (by decide) (by decide) (HM.out _ ((HX3.out.alloc _).alloc _))).mono ?_
  rintro e w4 ⟨v, rfl, hmb⟩
  rw [k_four] at hmb ⊢
  simp only at hmb ⊢
  have HX4 := Lib.hid (((HX3.out.alloc _).alloc _).trans hmb.1)
  have HB4 := Lib.hid (HB3.out.ext ((((Ext.refl _).alloc _).alloc _).trans hmb.1))
  obtain ⟨B4, cb4, rfl, -⟩ := hmb.form
  clear hmb HB3 HX3
  have hmk := Hmk.out
  go_wp2_with fail
  clear hmk
  refine (write_many _ 4097 4097 _ (by decide)).mono ?_
  rintro e w5 ⟨rfl, hx5⟩
  have HX5 := Lib.hid ((HX4.out.alloc _).trans hx5)
  have HB5 := Lib.hid (HB4.out.ext (((Ext.refl _).alloc _).trans hx5))
  clear hx5 HB4 HX4
  go_wp2_with fail
  refine (new_any w5).mono ?_
  rintro e w6 ⟨rfl, hx6, hr6⟩
  have HX6 := Lib.hid (HX5.out.trans hx6)
  have HB6 := Lib.hid (HB5.out.ext hx6)
  have HR6 := Lib.hid hr6
  obtain ⟨r, hr⟩ : ∃ r, w5.heap.size = r := ⟨_, rfl⟩
  have hrge : w.heap.size ≤ r := by have := HX5.out.size; omega
  rw [hr] at HR6 ⊢
  clear hx6 hr6 hr HB5 HX5
  go_wp2_with fail
  refine (feed_any Sp.real Sp.real_ok r none _ 0 0 2 2 Rd.new [77, 85] m _ (HR6.out.ext ((Ext.refl _).alloc _)) Rd.new_fine (bys_new w6 [77, 85]) (by decide) (HM.out _ (HX6.out.alloc _)) (by simp [Value.ownBlock])).mono ?_
  intro e w7 hp
  obtain ⟨vs7, LA7, lc7, y7, hvs7, rfl, -, hmd7, hr7, hy7⟩ := hp.bad k_head
  have HX7 : Hid (Ext w w7) := Lib.hid ((HX6.out.alloc _).fresh hmd7 (fun i h => by
    rcases h with h | h
    · omega
    · simp [Value.ownBlock] at h))
  have hgr : g ≠ r := fun e => by
    obtain ⟨b', o', h1, -, h3⟩ := HB6.out.2 (by decide)
    injection h1 with h1
    injection h1 with h1 h2
    have h4 := h3 0 77 (by rw [← HL.out]; rfl)
    rw [← h1, ← h2, e] at h4
    have h5 := HR6.out.blk
    have h6 := cell_of_row w6 r off _ 63 (0, 0) h5
    rw [Nat.add_zero] at h4
    rw [h6] at h4
    rcases off with _ | _ | _ | _ | _ | _ | _ | off
    all_goals simp at h4
  have HB7 : Hid (BySl w7 (some ⟨g, off, none⟩) 17 L) := Lib.hid ((HB6.out.ext ((Ext.refl _).alloc _)).mod hmd7 (fun b o h => by
    injection h with h
    injection h with h1 h2
    subst h1
    rintro (h | h)
    · exact hgr h
    · simp [Value.ownBlock] at h))
  have HR7 := Lib.hid hr7
  clear hp hvs7 hmd7 hr7 hy7 HB6 HR6 HX6
  go_wp2_with fail
  refine (feed_torn r none _ 0 0 17 cb y7 w7 HR7.out).mono ?_
  rintro e w8 ⟨rfl, hx8⟩
  have HX8 := Lib.hid (HX7.out.trans hx8)
  have HB8 := Lib.hid (HB7.out.ext hx8)
  clear hx8 HB7 HX7 HR7
  go_wp2_with fail
  refine (new_any w8).mono ?_
  rintro e w9 ⟨rfl, hx9, hr9⟩
  have HX9 := Lib.hid (HX8.out.trans hx9)
  have HB9 := Lib.hid (HB8.out.ext hx9)
  have HR9 := Lib.hid hr9
  have hgl : g < w8.heap.size := by obtain ⟨b', o', h1, h2, -⟩ := HB8.out.2 (by decide); injection h1 with h1; injection h1 with h1; omega
  obtain ⟨s, hs⟩ : ∃ r, w8.heap.size = r := ⟨_, rfl⟩
  have hsge : w.heap.size ≤ s := by have := HX8.out.size; omega
  rw [hs] at HR9 hgl ⊢
  clear hx9 hr9 hs HB8 HX8
  go_wp2_with fail
  refine (feed_any Sp.real Sp.real_ok s none _ 0 0 9 9 Rd.new [77, 84, 65, 49, 0, 0, 1, 255, 253] m _ (HR9.out.ext ((Ext.refl _).alloc _)) Rd.new_fine (bys_new w9 [77, 84, 65, 49, 0, 0, 1, 255, 253]) (by decide) (HM.out _ (HX9.out.alloc _)) (by simp [Value.ownBlock])).mono ?_
  intro e w10 hp
  obtain ⟨vs10, LA10, lc10, y10, hvs10, rfl, -, hmd10, -, -⟩ := hp.bad k_body
  have HX10 : Hid (Ext w w10) := Lib.hid ((HX9.out.alloc _).fresh hmd10 (fun i h => by
    rcases h with h | h
    · omega
    · simp [Value.ownBlock] at h))
  have HB10 : Hid (BySl w10 (some ⟨g, off, none⟩) 17 L) := Lib.hid ((HB9.out.ext ((Ext.refl _).alloc _)).mod hmd10 (fun b o h => by
    injection h with h
    injection h with h1 h2
    subst h1
    rintro (h | h)
    · omega
    · simp [Value.ownBlock] at h))
  clear hp hvs10 hmd10 HB9 HR9 HX9 hgl
  go_wp2_with fail
  refine (new_any w10).mono ?_
  rintro e w11 ⟨rfl, hx11, hr11⟩
  have HX11 := Lib.hid (HX10.out.trans hx11)
  have HB11 := Lib.hid (HB10.out.ext hx11)
  have HR11 := Lib.hid hr11
  have hgl : g < w10.heap.size := by obtain ⟨b', o', h1, h2, -⟩ := HB10.out.2 (by decide); injection h1 with h1; injection h1 with h1; omega
  obtain ⟨q, hq⟩ : ∃ r, w10.heap.size = r := ⟨_, rfl⟩
  have hqge : w.heap.size ≤ q := by have := HX10.out.size; omega
  rw [hq] at HR11 hgl ⊢
  have hcb6 : (6 : Int) ≤ (cb : Int) := by omega
  have hcb0 : ¬ cb = 0 := by omega
  clear hx11 hr11 hq HB10 HX10
  go_wp2_with fail
  have HP6 : Hid (BySl w11 (some ⟨g, off, none⟩) 6 [77, 84, 65, 49, 255, 0]) := Lib.hid (by
    have h1 := HB11.out.part (i := 0) (k := 6) (by omega)
    rw [Nat.add_zero, List.drop_zero] at h1
    have h2 : L.take 6 = [77, 84, 65, 49, 255, 0] := by rw [← HL.out, all_empty]; rfl
    rwa [h2] at h1)
  obtain ⟨ye, hye, hyb⟩ := k_end
  have Hyb := Lib.hid hyb
  refine (feed_any Sp.real Sp.real_ok q none _ 0 0 6 cb Rd.new [77, 84, 65, 49, 255, 0] m _ HR11.out Rd.new_fine HP6.out (by decide) (HM.out _ HX11.out) (by simp [Value.ownBlock])).mono ?_
  intro e w12 hp
  obtain ⟨vs12, LA12, lc12, A12, n12, c12, hvs12, rfl, -, hmd12, hr12, -, -, -, -⟩ := hp.good hye
  have hn12 : n12 = 2 := by rw [hr12.len, Hyb.out]; rfl
  subst hn12
  have HX12 : Hid (Ext w w12) := Lib.hid (HX11.out.fresh hmd12 (fun i h => by
    rcases h with h | h
    · omega
    · simp [Value.ownBlock] at h))
  have HB12 : Hid (BySl w12 (some ⟨g, off, none⟩) 17 L) := Lib.hid (HB11.out.mod hmd12 (fun b o h => by
    injection h with h
    injection h with h1 h2
    subst h1
    rintro (h | h)
    · omega
    · simp [Value.ownBlock] at h))
  have HR12 := Lib.hid hr12
  clear hp hvs12 hmd12 hr12 hye hyb HB11 HR11 HX11 HP6
  go_wp2_with fail
  have HP9 : Hid (BySl w12 (some ⟨g, off + 9, none⟩) 8 (L.drop 9)) := Lib.hid (by
    have h1 := HB12.out.part (i := 9) (k := 8) (by omega)
    rwa [List.take_of_length_le (by have := HB12.out.1; simp; omega)] at h1)
  have hg12 : g < w12.heap.size := by obtain ⟨b', o', h1, h2, -⟩ := HB12.out.2 (by decide); injection h1 with h1; injection h1 with h1; omega
  go_loop [27, 99] (fun sv iv => ∃ k : Nat, k ≤ 8 ∧ iv = .int .i64 (k : Int) ∧ sv = .int .u64 (numL ((L.drop 9).take k) : Int)) (fun _ iv => 8 - (intOf iv).toNat)
  case atStart => exact ⟨0, Nat.zero_le _, rfl, rfl⟩
  case round =>
    obtain ⟨k, hk, rfl, rfl⟩ := hrel
    obtain ⟨sm, hsm⟩ : ∃ s, numL ((L.drop 9).take k) = s := ⟨_, rfl⟩
    have Hs := Lib.hid hsm
    rw [hsm]
    by_cases hlt : k < 8
    · obtain ⟨b, o, ch, hbo, -, hck, k0⟩ := HP9.out.at hlt
      injection hbo with hbo
      injection hbo with hb1 hb2
      subst hb1 hb2
      have Hlt : Hid (True ∧ sm < 72057594037927936) := ⟨trivial, by
        have h1 := numL_lt ((L.drop 9).take k)
        rw [Hs.out] at h1
        have h2 : 256 ^ ((L.drop 9).take k).length ≤ 256 ^ 7 := Nat.pow_le_pow_right (by decide) (by simp; omega)
        omega⟩
      have d0 := k0 _ (Ext.refl _)
      have Hck := Lib.hid hck
      clear k0 hck hsm
      go_wp2_with fail
      go_round
      case rel => exact ⟨k + 1, by omega, by go_num, put_int (by rw [or_byte Hlt.out.2, ← Hs.out, ← numL_snoc, ← take_snoc Hck.out])⟩
      case measure => simp [intOf]; omega
    · have hk8 : k = 8 := by omega
      have He : Hid (sm = sumB Sp.real (L.take 9)) := Lib.hid (by
        rw [← Hs.out, hk8]
        have h1 : L = [77, 84, 65, 49, 255, 0, 0, 0, 0] ++ beN 8 (sumB Sp.real [77, 84, 65, 49, 255, 0, 0, 0, 0]) := by rw [← HL.out, all_empty]
        rw [h1, List.drop_left' (by rfl), List.take_left' (by rfl), List.take_of_length_le (by rw [beN_len]; exact Nat.le_refl _), numL_be (sumB_lt _)])
      clear hk8 hsm
      go_wp2_with fail
      have hL9 : L.take 9 = [77, 84, 65, 49, 255, 0, 0, 0, 0] := by
        have h1 : L = [77, 84, 65, 49, 255, 0, 0, 0, 0] ++ beN 8 (sumB Sp.real [77, 84, 65, 49, 255, 0, 0, 0, 0]) := by rw [← HL.out, all_empty]
        rw [h1]; exact List.take_left' (by rfl)
      have HP9' : Hid (BySl w12 (some ⟨g, off, none⟩) 9 (L.take 9)) := Lib.hid (by
        have h1 := HB12.out.part (i := 0) (k := 9) (by omega)
        rwa [Nat.add_zero, List.drop_zero] at h1)
      have HL9 := Lib.hid hL9
      clear hL9
      refine (equal_any _ _ _ _ _ _ (L.take 9) [77, 84, 65, 49, 255, 0, 0, 0, 0] _ (HP9'.out.ext ((Ext.refl _).alloc _)) (bys_new w12 [77, 84, 65, 49, 255, 0, 0, 0, 0])).mono ?_
      rintro e w13 ⟨rfl, rfl⟩
      rw [HL9.out, beq_self_eq_true]
      go_wp2_with fail
      refine (sum_any Sp.real _ _ _ (L.take 9) _ (HP9'.out.ext ((Ext.refl _).alloc _)) (by decide)).mono ?_
      rintro e w13 ⟨rfl, rfl⟩
      rw [← He.out]
      go_wp2_with fail
      refine (held_any q 2 c12 A12 ye false _ (HR12.out.ext ((Ext.refl _).alloc _))).mono ?_
      rintro e w13 ⟨rfl, rfl⟩
      go_wp2_with fail
      refine (works_any m _ (HM.out _ (HX12.out.alloc _))).mono ?_
      rintro e w13 ⟨rfl, hx13⟩
      have HX13 := Lib.hid ((HX12.out.alloc _).trans hx13)
      clear hx13
      go_wp2_with fail
      go_ret
      exact ⟨rfl, HX13.out⟩
end Go.Proofs.YtcpnnkkfndgpjaaDoor
