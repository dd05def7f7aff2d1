/- The document's archive: kinds, numbers, the sum, an item's bytes. -/
import Derived.Test.YtcpnnkkfndgpjaaDoorDD
import Derived.Test.YtcpnnkkfndgpjaaDoorWA
namespace Go.Proofs.YtcpnnkkfndgpjaaDoor
open Go.RowKit

theorem kindB_holds {k : Int} : kindB k = decide (0 ≤ holdsN k) := by
  unfold kindB holdsN
  by_cases h0 : k = 0
  · subst h0; rfl
  by_cases h1 : k = 1
  · subst h1; rfl
  by_cases h2 : k = 2
  · subst h2; rfl
  by_cases h4 : k = 4
  · subst h4; rfl
  simp [h0, h1, h2, h4]
theorem rkind_any (k : Int) (w : World) : Calls Tryd.prog 30 #[.int .i8 k] w fun e w' => e = .returned (.bool (kindB k)) ∧ w = w' := by
  by_cases h0 : k = 0
  · subst h0; go_enter Tryd.func30, Tryd.ntmps30; go_wp2; go_ret; exact ⟨rfl, rfl⟩
  by_cases h1 : k = 1
  · subst h1; go_enter Tryd.func30, Tryd.ntmps30; go_wp2; go_ret; exact ⟨rfl, rfl⟩
  by_cases h2 : k = 2
  · subst h2; go_enter Tryd.func30, Tryd.ntmps30; go_wp2; go_ret; exact ⟨rfl, rfl⟩
  by_cases h4 : k = 4
  · subst h4; go_enter Tryd.func30, Tryd.ntmps30; go_wp2; go_ret; exact ⟨rfl, rfl⟩
  have e0 : (k == 0) = false := beq_eq_false_iff_ne.2 h0
  have e2 : (k == 2) = false := beq_eq_false_iff_ne.2 h2
  have e1 : (k == 1) = false := beq_eq_false_iff_ne.2 h1
  have e4 : (k == 4) = false := beq_eq_false_iff_ne.2 h4
  have hv : Hid (kindB k = false) := Lib.hid (by unfold kindB; simp [h0, h1, h2, h4])
  clear h0 h1 h2 h4
  go_enter Tryd.func30, Tryd.ntmps30
  go_wp2
  go_ret
  exact ⟨ret_bool hv.out.symm, rfl⟩
theorem rempty_any (k : Int) (w : World) : Calls Tryd.prog 32 #[.int .i8 k] w fun e w' => e = .returned (.bool (dryB k)) ∧ w = w' := by
  by_cases h1 : k = 1
  · subst h1; go_enter Tryd.func32, Tryd.ntmps32; go_wp2; go_ret; exact ⟨rfl, rfl⟩
  by_cases h4 : k = 4
  · subst h4; go_enter Tryd.func32, Tryd.ntmps32; go_wp2; go_ret; exact ⟨rfl, rfl⟩
  have e1 : (k == 1) = false := beq_eq_false_iff_ne.2 h1
  have e4 : (k == 4) = false := beq_eq_false_iff_ne.2 h4
  have hv : Hid (dryB k = false) := Lib.hid (by unfold dryB; simp [h1, h4])
  clear h1 h4
  go_enter Tryd.func32, Tryd.ntmps32
  go_wp2
  go_ret
  exact ⟨ret_bool hv.out.symm, rfl⟩
set_option maxRecDepth 20000 in
theorem rput_any (w0 : World) (v : Value) (l : Bs) (N K : Nat) (w : World) (hm : MineB w0 w v l) (hN : N < 18446744073709551616) (hK : K ≤ 8) (hl : l.length ≤ 1073741824) :
    Calls Tryd.prog 35 #[v, .int .u64 (N : Int), .int .i64 (K : Int)] w fun e w' => ∃ v', e = .returned v' ∧ MineB w0 w' v' (l ++ beN K N) := by
  have HM := Lib.hid hm
  have HN : Hid (True ∧ N < 18446744073709551616) := ⟨trivial, hN⟩
  obtain ⟨A0, c0, rfl, -⟩ := hm.form
  clear hm hN
  obtain ⟨i, hi, hz, hsz, hby⟩ := info_parts Tryd.info5
  go_enter Tryd.func35, Tryd.ntmps35
  go_wp2_with fail
  go_loopw [0, 7] (fun bv iv wr => ∃ (k : Nat) (A : Option Addr) (n c : Nat) (l' : Bs), k ≤ K ∧ (∃ z : Int, iv = .int .i64 z ∧ z = (k : Int) - 1) ∧ bv = .slice A n c ∧ n = l'.length ∧ n + k ≤ l.length + K ∧ MineB w0 wr (.slice A n c) l' ∧ l' ++ beN k N = l ++ beN K N) (fun _ iv _ => (intOf iv + 1).toNat)
  case atStart => exact ⟨K, A0, l.length, c0, l, Nat.le_refl _, ⟨_, rfl, rfl⟩, rfl, rfl, Nat.le_refl _, HM.out, rfl⟩
  case round =>
    obtain ⟨k, A, n, c, l', hk, ⟨z, rfl, hz⟩, rfl, hnl, hnb, hmi, hll⟩ := hrel
    have HMi := Lib.hid hmi
    have Hll := Lib.hid hll
    have Hnl := Lib.hid hnl
    clear hmi hll hnl
    rcases Nat.eq_zero_or_pos k with hk0 | hk0
    · subst hk0
      obtain rfl : z = -1 := by omega
      clear hz
      have He : Hid (l' = l ++ beN K N) := Lib.hid (by rw [← Hll.out]; simp [beN])
      go_wp2_with fail
      go_ret
      exact ⟨_, rfl, by have := HMi.out; rwa [He.out] at this⟩
    · obtain ⟨j, rfl⟩ : ∃ j, k = j + 1 := ⟨k - 1, by omega⟩
      obtain rfl : z = (j : Int) := by omega
      clear hz hk0
      have HO : Hid (Own wr 5 1 (.slice A n c) n (u8v l')) := Lib.hid (by have := HMi.out.2.1; rwa [← Hnl.out] at this)
      have hj8 : (j : Int) ≤ 7 := by omega
      obtain ⟨b, hb⟩ : ∃ b : UInt8, UInt8.ofNat (N / 256 ^ j) = b := ⟨_, rfl⟩
      have hv := byte_at N j
      rw [hb] at hv
      have Hb := Lib.hid hb
      clear hb
      go_wp2_with (at_builtin; refine wpList_append_own_any _ rfl (.tmp 14) (.tmp 20) 26 rfl 5 i _ 1 1 Tryd.underlying26 hi hz hsz hby rfl (by decide) (.slice A n c) n (u8v l') rfl (HO.out.ext ((Ext.refl _).alloc _)) (some ⟨wr.heap.size, 0, none⟩) 1 1 (u8v [b]) rfl rfl (fun _ => ⟨_, rfl, new_cells _ _ _⟩) (u8v_one [b]) (by unfold maxLen; omega) (by omega) ?_)
      intro v' w9 ho hg hv'
      have HN2 := Lib.hid ((HMi.out.ext ((Ext.refl _).alloc _)).push (v' := v') [b] rfl (by rw [← Hnl.out]; exact ho) hg (by simpa using hv'))
      obtain ⟨A', c', rfl, -, -⟩ := ho.form
      clear ho hg hv'
      go_wp2_with fail
      go_roundw
      case rel => exact ⟨j, A', n + 1, c', l' ++ [b], by omega, ⟨_, rfl, rfl⟩, rfl, by simp [Hnl.out], by omega, HN2.out, by rw [← Hll.out, ← Hb.out, List.append_assoc]; rfl⟩
      case measure => simp [intOf]
set_option maxRecDepth 20000 in
theorem rsum_any (Z : Sp) (A : Option Addr) (n c : Nat) (l : Bs) (w : World) (hl : BySl w A n l) (hn : n ≤ 9223372036854775807) :
    Calls Tryd.prog 36 #[.slice A n c] w fun e w' => e = .returned (.int .u64 (sumB Z l : Int)) ∧ w = w' := by
  have HL := Lib.hid hl
  clear hl
  go_enter Tryd.func36, Tryd.ntmps36
  go_wp2_with fail
  go_loop [3, 4] (fun s i => ∃ k : Nat, k ≤ n ∧ i = .int .i64 (k : Int) ∧ s = .int .u64 (sumB Z (l.take k) : Int)) (fun _ i => n - (intOf i).toNat)
  case atStart => exact ⟨0, Nat.zero_le _, rfl, rfl⟩
  case round =>
    obtain ⟨k, hk, rfl, rfl⟩ := hrel
    obtain ⟨s, hs⟩ : ∃ s, sumB Z (l.take k) = s := ⟨_, rfl⟩
    have Hs := Lib.hid hs
    have hlt64 : s < 18446744073709551616 := by rw [← hs]; exact sumB_lt _
    rw [hs]
    have Hlt : Hid (True ∧ s < 18446744073709551616) := ⟨trivial, hlt64⟩
    clear hs hlt64
    by_cases hlt : k < n
    · obtain ⟨b, off, ch, rfl, -, hck, k0⟩ := HL.out.at hlt
      have d0 := k0 _ (Ext.refl _)
      have Hck := Lib.hid hck
      clear k0 hck
      go_wp2_with fail
      go_round
      case rel => exact ⟨k + 1, by omega, by go_num, put_int (by rw [st_step Z Hlt.out.2, ← Hs.out, ← fnv_snoc', ← take_snoc Hck.out])⟩
      case measure => simp [intOf]; omega
    · have hkn : k = n := by omega
      have He : Hid (s = sumB Z l) := Lib.hid (by rw [← Hs.out, hkn, HL.out.1, List.take_length])
      clear hkn
      go_wp2_with fail
      go_ret
      exact ⟨ret_int (by rw [He.out]), rfl⟩
theorem MineB.new1 (w : World) (b : UInt8) : MineB w (w.alloc (.cells #[.int .u8 (b.toNat : Int)] 5)) (.slice (some ⟨w.heap.size, 0, none⟩) 1 1) [b] :=
  ⟨(Ext.refl _).alloc _, ⟨rfl, .inr ⟨w.heap.size, 0, 1, _, rfl, heap_alloc_new w _, Nat.le_refl _, by decide, by simp, rfl⟩⟩, fun k hk => by simp [Value.ownBlock] at hk; omega⟩
theorem rhead_any (w : World) : Calls Tryd.prog 33 #[] w fun e w' => ∃ v, e = .returned v ∧ MineB w w' v headB := by
  go_enter Tryd.func33, Tryd.ntmps33
  go_wp2_with fail
  go_ret
  exact ⟨_, rfl, (Ext.refl _).alloc _, ⟨rfl, .inr ⟨w.heap.size, 0, 4, _, rfl, heap_alloc_new w _, Nat.le_refl _, by decide, by simp, rfl⟩⟩, fun k hk => by simp [Value.ownBlock] at hk; omega⟩
set_option maxRecDepth 20000 in
set_option maxHeartbeats 4000000 in
theorem ritem_any (Z : Sp) (x : It) (D : Option Addr) (dc : Nat) (w : World) (hbs : BySl w D x.data.length x.data) (hp : x.path.length ≤ 65535) (hd : x.data.length ≤ 16777216) :
    Calls Tryd.prog 34 #[.agg #[.string (mkB x.path), .int .i8 x.kind, .slice D x.data.length dc]] w fun e w' => ∃ v, e = .returned v ∧ MineB w w' v (enc Z x) := by
  have Hbs := Lib.hid hbs
  clear hbs
  obtain ⟨i, hi, hz, hsz5, hby⟩ := info_parts Tryd.info5
  have hkb : IntKind.u8.wrap x.kind = ((kbyte x.kind).toNat : Int) := kbyte_wrap
  have hpsz : (mkB x.path).size = x.path.length := by show x.path.toArray.size = _; simp
  obtain ⟨P, hP⟩ : ∃ P, mkB x.path = P := ⟨_, rfl⟩
  rw [hP] at hpsz ⊢
  have HP := Lib.hid hP
  obtain ⟨kb, hkbe⟩ : ∃ b, kbyte x.kind = b := ⟨_, rfl⟩
  rw [hkbe] at hkb
  have Hkb := Lib.hid hkbe
  obtain ⟨K, hK⟩ : ∃ K, x.kind = K := ⟨_, rfl⟩
  rw [hK] at hkb ⊢
  obtain ⟨pl, hpl⟩ : ∃ n, x.path.length = n := ⟨_, rfl⟩
  rw [hpl] at hp hpsz
  have Hpl := Lib.hid hpl
  obtain ⟨dl, hdl⟩ : ∃ n, x.data.length = n := ⟨_, rfl⟩
  rw [hdl] at hd Hbs ⊢
  have Hdl := Lib.hid hdl
  clear hP hkbe hK hpl hdl
  have K0 : Hid (∀ wx, Ext (w.alloc (.cells #[.string P, .int .i8 K, .slice D dl dc] 50)) wx → wx.cell? ⟨w.heap.size, 0, none⟩ = some (.string P)) := Lib.hid (fun wx hx => hx.cell_new 0)
  have K2 : Hid (∀ wx, Ext (w.alloc (.cells #[.string P, .int .i8 K, .slice D dl dc] 50)) wx → wx.cell? ⟨w.heap.size, 2, none⟩ = some (.slice D dl dc)) := Lib.hid (fun wx hx => hx.cell_new 2)
  have hX : Ext w (w.alloc (.cells #[.string P, .int .i8 K, .slice D dl dc] 50)) := (Ext.refl _).alloc _
  have HX := Lib.hid hX
  have u1 : IntKind.u64.wrap (pl : Int) = (pl : Int) := IntWalk.u64_in _ (by omega)
  have u2 : IntKind.u64.wrap (65535 - (pl : Int)) = ((65535 - pl : Nat) : Int) := by rw [IntWalk.u64_in _ (by omega)]; omega
  have u3 : IntKind.u64.wrap (dl : Int) = (dl : Int) := IntWalk.u64_in _ (by omega)
  have u4 : IntKind.u64.wrap (4294967295 - (dl : Int)) = ((4294967295 - dl : Nat) : Int) := by rw [IntWalk.u64_in _ (by omega)]; omega
  clear hX
  go_enter Tryd.func34, Tryd.ntmps34
  go_wp2_with fail
  obtain ⟨w1, hw1⟩ : ∃ W, w.alloc (.cells #[.string P, .int .i8 K, .slice D dl dc] 50) = W := ⟨_, rfl⟩
  rw [hw1] at K0 K2 HX ⊢
  have hs1 : w1.heap.size = w.heap.size + 1 := by rw [← hw1]; simp
  rw [← hs1]
  clear hw1
  have HM2 := Lib.hid (MineB.new1 w1 kb)
  refine (rput_any w1 _ [kb] pl 2 _ HM2.out (by omega) (by decide) (by simp)).mono ?_
  rintro e w3 ⟨v3, rfl, hm3⟩
  have HM3 := Lib.hid hm3
  clear hm3 HM2
  go_wp2_with fail
  refine (rput_any w1 _ _ (65535 - pl) 2 w3 HM3.out (by omega) (by decide) (by rw [List.length_append, beN_len]; simp)).mono ?_
  rintro e w4 ⟨v4, rfl, hm4⟩
  obtain ⟨L4, hL4⟩ : ∃ l, [kb] ++ beN 2 pl ++ beN 2 (65535 - pl) = l := ⟨_, rfl⟩
  have hL4l : L4.length = 5 := by rw [← hL4, List.length_append, List.length_append, beN_len, beN_len]; rfl
  rw [hL4] at hm4
  have HL4 := Lib.hid hL4
  have HM4 := Lib.hid hm4
  have q0 := K0.out _ hm4.1
  obtain ⟨A4, c4, rfl, -⟩ := hm4.form
  rw [hL4l] at HM4 ⊢
  clear hm4 hL4 HM3 u1 u2
  go_wp2_with (at_builtin; refine wpList_append_own_str w4 rfl (.tmp 20) (.tmp 22) 26 9 rfl 5 i _ 1 Tryd.underlying26 Tryd.underlying9 hi hz hsz5 hby rfl (.slice A4 5 c4) 5 (u8v L4) rfl (by have := HM4.out.2.1; rwa [hL4l] at this) P rfl (by unfold maxLen; omega) (by omega) ?_)
  intro v5 w5 ho hg hv'
  have HM5 : Hid (MineB w1 w5 v5 (L4 ++ x.path)) := Lib.hid (HM4.out.push x.path (n := pl) Hpl.out.symm (by rw [byteCells_u8v, ← HP.out] at ho; rw [hL4l]; exact ho) hg hv')
  obtain ⟨L5, hL5⟩ : ∃ l, L4 ++ x.path = l := ⟨_, rfl⟩
  have hL5l : L5.length = 5 + pl := by rw [← hL5, List.length_append, hL4l, Hpl.out]
  rw [hL5] at HM5
  have HL5 := Lib.hid hL5
  have q2 := K2.out _ HM5.out.1
  obtain ⟨A5, c5, rfl, -⟩ := HM5.out.form
  rw [hL5l] at HM5 ⊢
  clear ho hg hv' hL5 HM4 hL4l q0
  go_wp2_with fail
  refine (rput_any w1 _ L5 dl 4 w5 HM5.out (by omega) (by decide) (by omega)).mono ?_
  rintro e w6 ⟨v6, rfl, hm6⟩
  have HM6 := Lib.hid hm6
  clear hm6 HM5 q2
  go_wp2_with fail
  refine (rput_any w1 _ _ (4294967295 - dl) 4 w6 HM6.out (by omega) (by decide) (by rw [List.length_append, beN_len]; omega)).mono ?_
  rintro e w7 ⟨v7, rfl, hm7⟩
  obtain ⟨L7, hL7⟩ : ∃ l, L5 ++ beN 4 dl ++ beN 4 (4294967295 - dl) = l := ⟨_, rfl⟩
  have hL7l : L7.length = 13 + pl := by rw [← hL7, List.length_append, List.length_append, beN_len, beN_len]; omega
  rw [hL7] at hm7
  have HL7 := Lib.hid hL7
  have HM7 := Lib.hid hm7
  have q2 := K2.out _ hm7.1
  obtain ⟨A7, c7, rfl, -⟩ := hm7.form
  rw [hL7l] at HM7 ⊢
  clear hm7 hL7 HM6 u3 u4
  go_wp2_with (at_builtin; refine wpList_append_own_any _ rfl (.tmp 35) (.tmp 37) 26 rfl 5 i _ 1 1 Tryd.underlying26 hi hz hsz5 hby rfl (by decide) (.slice A7 (13 + pl) c7) (13 + pl) (u8v L7) rfl (by have := HM7.out.2.1; rwa [hL7l] at this) D dl dc (u8v x.data) rfl (by rw [u8v_len, Nat.mul_one, Hdl.out]) (Hbs.out.ext (HX.out.trans HM7.out.1)).news (u8v_one _) (by unfold maxLen; omega) (by omega) ?_)
  intro v8 w8 ho hg hv'
  have HM8 : Hid (MineB w1 w8 v8 (L7 ++ x.data)) := Lib.hid (HM7.out.push x.data Hdl.out.symm (by rw [hL7l]; exact ho) hg hv')
  obtain ⟨L8, hL8⟩ : ∃ l, L7 ++ x.data = l := ⟨_, rfl⟩
  have hL8l : L8.length = 13 + pl + dl := by rw [← hL8, List.length_append, hL7l, Hdl.out]
  have HL8 : Hid (L8 = bodyB x) := Lib.hid (by rw [← hL8, ← HL7.out, ← HL5.out, ← HL4.out, ← Hkb.out, ← Hpl.out, ← Hdl.out]; simp [bodyB])
  rw [hL8] at HM8
  obtain ⟨A8, c8, rfl, hB8⟩ := HM8.out.form
  have HB8 := Lib.hid hB8
  rw [hL8l] at HM8 HB8 ⊢
  clear ho hg hv' hL8 HM7 hB8 q2
  go_wp2_with fail
  refine (rsum_any Z A8 _ _ L8 w8 HB8.out (by omega)).mono ?_
  rintro e w9 ⟨rfl, rfl⟩
  have HSm : Hid (True ∧ sumB Z L8 < 18446744073709551616) := ⟨trivial, sumB_lt _⟩
  obtain ⟨su, hsu⟩ : ∃ z, sumB Z L8 = z := ⟨_, rfl⟩
  have Hsu := Lib.hid hsu
  rw [hsu] at HSm ⊢
  clear hsu
  go_wp2_with fail
  refine (rput_any w1 _ L8 su 8 w8 HM8.out HSm.out.2 (by decide) (by omega)).mono ?_
  rintro e w9 ⟨v9, rfl, hm9⟩
  have HM9 : Hid (MineB w w9 v9 (enc Z x)) := Lib.hid (by
    rw [← Hsu.out, HL8.out] at hm9
    exact hm9.base HX.out)
  clear hm9
  go_wp2_with fail
  go_ret
  exact ⟨_, rfl, HM9.out⟩
end Go.Proofs.YtcpnnkkfndgpjaaDoor
