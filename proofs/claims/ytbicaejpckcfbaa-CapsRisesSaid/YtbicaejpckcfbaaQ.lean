/- Stacks of wrappers: the document's Stack. -/
import Derived.Test.YtbicaejpckcfbaaP
namespace Go.Proofs.Ytbicaejpckcfbaa
open Go.RowKit

set_option maxRecDepth 20000 in
set_option maxHeartbeats 2000000 in
theorem refstack_any (A : Option Addr) (n c : Nat) (ls : List Wr) (leaf : Nat) (w : World) (hs : WrSl w A n ls) (hok : ∀ x ∈ ls, x.ok) (hn : n ≤ 9223372036854775807) :
    Calls Try.prog 17 #[.slice A n c, .int .u8 (leaf : Int)] w (StackPost ls leaf w) := by
  have HS := Lib.hid hs
  have Hl := Lib.hid hs.1
  have HK := Lib.hid hok
  clear hs hok
  by_cases h32 : 32 < n
  · have hv : Hid (stackN ls leaf = (0, 3)) := if_pos (by have := Hl.out; omega)
    go_enter Try.func17, Try.ntmps17
    go_wp2_with fail
    go_ret2
    exact StackPost.of hv.out (Ext.refl _)
  by_cases hlf : 15 < leaf
  · have hv : Hid (stackN ls leaf = (0, 2)) := by show _ = _; unfold stackN; rw [if_neg (by have := Hl.out; omega), if_pos hlf]
    go_enter Try.func17, Try.ntmps17
    go_wp2_with fail
    go_ret2
    exact StackPost.of hv.out (Ext.refl _)
  have hv : Hid (stackN ls leaf = foldS ls leaf) := by show _ = _; unfold stackN; rw [if_neg (by have := Hl.out; omega), if_neg hlf]
  obtain ⟨i, hi, hz, hsz, hby⟩ := info_parts Try.info5
  go_enter Try.func17, Try.ntmps17
  go_wp2_with fail
  go_loopw [6, 7] (fun v i wr => ∃ (k can : Nat), k ≤ n ∧ i = .int .i64 k ∧ v = .int .u8 (can : Int) ∧ foldS ls leaf = foldS (ls.drop k) can ∧ Ext w wr) (fun _ i _ => n - (intOf i).toNat)
  case atStart => exact ⟨0, leaf, Nat.zero_le _, rfl, rfl, rfl, Ext.refl _⟩
  case round =>
    obtain ⟨k, can, hk, rfl, rfl, hf, hx⟩ := hrel
    have HF := Lib.hid hf
    have HX := Lib.hid hx
    clear hf hx
    by_cases hlt : k < n
    · obtain ⟨b, off, ⟨kd, xn, xm, xk⟩, rfl, hxe, k0, k1, k2, k3⟩ := (HS.out.ext HX.out).at hlt
      simp only at k0 k1 k2 k3
      have Hx := Lib.hid hxe
      have hko := HK.out _ (List.mem_of_getElem? hxe)
      obtain ⟨hk1, hk2⟩ : -128 ≤ kd ∧ kd ≤ 127 := hko
      have eY : Ext wr (wr.alloc (.cells #[.int .u8 (can : Int)] 5)) := (Ext.refl _).alloc _
      have d0 := k0 _ eY
      have d1 := k1 _ eY
      have d2 := k2 _ eY
      have d3 := k3 _ eY
      obtain ⟨⟨ra, re⟩, hre⟩ : ∃ r, overN kd (belowN kd can) = r := ⟨_, rfl⟩
      have Hre := Lib.hid hre
      have hre2 := over_err kd (belowN kd can)
      rw [hre] at hre2
      simp only at hre2
      have Hstep : Hid (foldS ls leaf = if re ≠ 0 then (0, 2) else foldS (ls.drop (k + 1)) ra) := by
        show _ = _
        rw [HF.out, fold_step hxe, hre]
      have HQ : Hid (∀ wx, Ext wr wx → wx.cell? ⟨b, off + k * 4, none⟩ = some (.int .i8 kd) ∧ wx.cell? ⟨b, off + k * 4 + 1, none⟩ = some (.int .i64 xn) ∧ wx.cell? ⟨b, off + k * 4 + 2, none⟩ = some (.int .i64 xm) ∧ wx.cell? ⟨b, off + k * 4 + 3, none⟩ = some (.int .u64 xk)) := fun wx h => ⟨k0 _ h, k1 _ h, k2 _ h, k3 _ h⟩
      clear hxe k0 k1 k2 k3 hre eY
      by_cases ht : two kd
      · have Hb : Hid (belowN kd can = [can, 15]) := if_pos ht
        have Hov : Hid (overN kd [can, 15] = (ra, re)) := by show _ = _; rw [← Hb.out]; exact Hre.out
        have Hown : Hid (Own ((wr.alloc (.cells #[.int .u8 (can : Int)] 5)).alloc (.cells #[.int .u8 15] 5)) 5 1 (.slice (some ⟨wr.heap.size, 0, none⟩) 1 1) 1 (u8s [can])) := (Own.made wr can).ext ((Ext.refl _).alloc (.cells #[.int .u8 15] 5))
        have Hnew : Hid (0 < 1 → ∃ ad, (some ⟨wr.heap.size + 1, 0, none⟩ : Option Addr) = some ad ∧ ∀ j u, (u8s [15])[j]? = some u → ((wr.alloc (.cells #[.int .u8 (can : Int)] 5)).alloc (.cells #[.int .u8 15] 5)).cell? (ad.add j) = some u) := Lib.hid (fun _ => ⟨_, rfl, by have := new_cells (wr.alloc (.cells #[.int .u8 (can : Int)] 5)) [.int .u8 15] 5; simpa [u8s] using this⟩)
        rcases ht with rfl | rfl | rfl | rfl
        all_goals
          go_wp2_with (at_builtin; refine wpList_append_own_any _ rfl (.tmp 57) (.tmp 58) 26 rfl 5 i _ 1 1 Try.underlying26 hi hz hsz hby rfl (by decide) (.slice (some ⟨wr.heap.size, 0, none⟩) 1 1) 1 (u8s [can]) rfl Hown.out (some ⟨wr.heap.size + 1, 0, none⟩) 1 1 (u8s [15]) rfl rfl Hnew.out (u8s_one [15]) (by unfold maxLen; decide) (by decide) ?_)
          intro v' w2 ho2 hg2 hv2
          have hx2a : Ext wr w2 := (((Ext.refl wr).alloc _).alloc _).grown hg2 (fun j h => by simp [Value.ownBlock] at h; omega)
          have Hx2 : Hid (Ext w w2) := HX.out.trans hx2a
          have Hsl : Hid (Own w2 5 1 v' 2 (u8s [can, 15])) := ho2
          obtain ⟨q0e, q1e, q2e, q3e⟩ := HQ.out w2 hx2a
          obtain ⟨A2, c2, rfl, -, -⟩ := ho2.form
          clear ho2 hg2 hv2 hx2a d0 d1 d2 d3
          go_wp2_with fail
          refine (refover_any _ xn xm xk A2 2 c2 [can, 15] w2 (own_sets Hsl.out) (by decide) hk1 hk2).mono ?_
          rintro e w3 ⟨rfl, hx3⟩
          rw [Hov.out]
          have HX3 := Lib.hid (Hx2.out.trans hx3)
          clear hx3
          by_cases hr : re = 0
          · subst hr
            have HS2 : Hid (foldS ls leaf = foldS (ls.drop (k + 1)) ra) := by show _ = _; rw [Hstep.out]; exact if_neg (fun h => h rfl)
            go_wp2_with fail
            go_roundw
            case rel => exact ⟨k + 1, ra, by omega, by go_num, rfl, HS2.out, HX3.out⟩
            case measure => simp [intOf]; omega
          · obtain rfl : re = 2 := by omega
            have HS2 : Hid (stackN ls leaf = (0, 2)) := by show _ = _; rw [hv.out, Hstep.out]; exact if_pos (by decide)
            go_wp2_with fail
            go_ret2
            exact StackPost.of HS2.out HX3.out
      · have Hb : Hid (belowN kd can = [can]) := if_neg ht
        have n1 : (kd == 1) = false := beq_eq_false_iff_ne.2 (fun h => ht (.inl h))
        have n2 : (kd == 2) = false := beq_eq_false_iff_ne.2 (fun h => ht (.inr (.inl h)))
        have n5 : (kd == 5) = false := beq_eq_false_iff_ne.2 (fun h => ht (.inr (.inr (.inl h))))
        have n8 : (kd == 8) = false := beq_eq_false_iff_ne.2 (fun h => ht (.inr (.inr (.inr h))))
        have Hsl : Hid (SetSl (wr.alloc (.cells #[.int .u8 (can : Int)] 5)) (some ⟨wr.heap.size, 0, none⟩) 1 [can]) := SetSl.made wr [can] #[.int .u8 (can : Int)] rfl
        have Hx2 : Hid (Ext w (wr.alloc (.cells #[.int .u8 (can : Int)] 5))) := HX.out.alloc _
        have Hov : Hid (overN kd [can] = (ra, re)) := by show _ = _; rw [← Hb.out]; exact Hre.out
        clear ht
        go_wp2_with fail
        refine (refover_any kd xn xm xk _ 1 1 [can] _ Hsl.out (by decide) hk1 hk2).mono ?_
        rintro e w3 ⟨rfl, hx3⟩
        rw [Hov.out]
        have HX3 := Lib.hid (Hx2.out.trans hx3)
        clear hx3 d0 d1 d2 d3
        by_cases hr : re = 0
        · subst hr
          have HS2 : Hid (foldS ls leaf = foldS (ls.drop (k + 1)) ra) := by show _ = _; rw [Hstep.out]; exact if_neg (fun h => h rfl)
          go_wp2_with fail
          go_roundw
          case rel => exact ⟨k + 1, ra, by omega, by go_num, rfl, HS2.out, HX3.out⟩
          case measure => simp [intOf]; omega
        · obtain rfl : re = 2 := by omega
          have HS2 : Hid (stackN ls leaf = (0, 2)) := by show _ = _; rw [hv.out, Hstep.out]; exact if_pos (by decide)
          go_wp2_with fail
          go_ret2
          exact StackPost.of HS2.out HX3.out
    · have hkn : k = n := by omega
      have HS2 : Hid (stackN ls leaf = (can, 0)) := by
        show _ = _
        rw [hv.out, HF.out, show k = ls.length from by have := Hl.out; omega, List.drop_length]
        rfl
      clear hkn
      go_wp2_with fail
      go_ret2
      exact StackPost.of HS2.out HX.out
end Go.Proofs.Ytbicaejpckcfbaa
