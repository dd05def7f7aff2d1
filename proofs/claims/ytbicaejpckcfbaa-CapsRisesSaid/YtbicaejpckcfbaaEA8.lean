/- The document's Over at the wrapper of number 8. -/
import Derived.Test.YtbicaejpckcfbaaE
namespace Go.Proofs.Ytbicaejpckcfbaa
open Go.RowKit

set_option maxRecDepth 20000 in
set_option maxHeartbeats 1000000 in
theorem refover_8 (N M K : Int) (A : Option Addr) (n c : Nat) (ls : List Nat) (w : World) (hs : SetSl w A n ls) (hc : n ≤ 9223372036854775807) (hf1 : 2 ≤ n) (hf2 : n ≤ 2) :
    Calls Try.prog 9 #[.agg #[.int .i8 8, .int .i64 N, .int .i64 M, .int .u64 K], .slice A n c] w (OverPost 8 ls w) := by
  have e0 : Ext w (w.alloc (.cells #[.int .i8 8, .int .i64 N, .int .i64 M, .int .u64 K] 25)) := (Ext.refl _).alloc _
  have HS := Lib.hid hs
  have Hl := Lib.hid hs.1
  have Hf : Hid (fitsB 8 n = true) := fits_yes (k := 8) (by decide) hf1 hf2
  clear hs
  go_enter Try.func9, Try.ntmps9
  go_wp2_with (go_at_call 19; refine (fits_any 8 n _ (by decide) (by decide) hc).mono ?_; rintro e w1 ⟨rfl, rfl⟩; rw [Hf.out])
  go_loopw [6] (fun i wr => ∃ k : Nat, k ≤ n ∧ i = .int .i64 k ∧ (∀ x ∈ ls.take k, x < 16) ∧ Ext (w.alloc (.cells #[.int .i8 8, .int .i64 N, .int .i64 M, .int .u64 K] 25)) wr) (fun i _ => n - (intOf i).toNat)
  case atStart => exact ⟨0, Nat.zero_le _, rfl, fun x hx => by simp at hx, Ext.refl _⟩
  case round =>
    obtain ⟨k, hk, rfl, h16, hx0⟩ := hrel
    have H16k := Lib.hid h16
    have hx : Ext w wr := e0.trans hx0
    have z0 : wr.cell? ⟨w.heap.size, 0, none⟩ = some (.int .i8 8) := hx0.cell_new 0
    clear h16
    obtain ⟨g, off, rfl, hg, hce⟩ := HS.out.2 (by omega)
    by_cases hlt : k < n
    · have hkl : k < ls.length := by have := Hl.out; omega
      have d0 := (hx.cell hg).trans (hce k ls[k] (List.getElem?_eq_getElem hkl))
      obtain ⟨x, hxe⟩ : ∃ x, ls[k] = x := ⟨_, rfl⟩
      have Hx : Hid (ls[k]? = some x) := by show _ = _; rw [List.getElem?_eq_getElem hkl, hxe]
      rw [hxe] at d0
      clear hce hxe
      by_cases hbig : 15 < x
      · have hv : Hid (overN 8 ls = (0, 2)) := over_big (k := 8) (by decide) Hx.out hbig
        go_wp2_with fail
        go_ret2
        exact OverPost.of hv.out hx
      · go_wp2_with fail
        go_roundw
        case rel =>
          refine ⟨k + 1, by omega, by go_num, fun y hy => ?_, hx0⟩
          obtain ⟨h1, h2⟩ := List.getElem?_eq_some_iff.1 Hx.out
          rw [List.take_succ_eq_append_getElem h1] at hy
          rcases List.mem_append.1 hy with hy | hy
          · exact H16k.out y hy
          · rw [List.mem_singleton.1 hy, h2]; omega
        case measure => simp [intOf]; omega
    · have H16 : Hid (∀ x ∈ ls, x < 16) := by
          have := H16k.out
          rw [show k = ls.length from by have := Hl.out; omega, List.take_length] at this
          exact this
      have hv : Hid (overN 8 ls = (keepN 8 ls, 0)) := over_ok (k := 8) (by decide) (by have := Hl.out; show 2 ≤ ls.length; omega) (by have := Hl.out; show ls.length ≤ 2; omega) H16.out
      · have h0 : ls[0]? = some (A0 ls) := by
          have hl2 : 0 < ls.length := by have := Hl.out; omega
          match ls, hl2 with
          | x :: l, _ => rfl
        have c0 := (hx.cell hg).trans (hce 0 _ h0)
        simp only [Nat.add_zero] at c0
        have ha : A0 ls < 16 := H16.out _ (List.mem_of_getElem? h0)
        have hE : everyN ls < 16 := everyN_small H16.out
        clear hce h0
        obtain ⟨g', off', hgo, hg2, hce2⟩ := HS.out.2 (by omega)
        injection hgo with hgo
        injection hgo with hg1 hg3
        subst hg1 hg3
        have HC : Hid (True ∧ A1 ls < 16 ∧ ∀ wx, Ext w wx → wx.cell? ⟨g, off + 1, none⟩ = some (.int .u8 (A1 ls : Int))) := by
          have hl2 : 1 < ls.length := by have := Hl.out; omega
          have h1 : ls[1]? = some (A1 ls) := by
            match ls, hl2 with
            | x :: y :: l, _ => rfl
          exact ⟨trivial, H16.out _ (List.mem_of_getElem? h1), fun wx h => h.cell_some (hce2 1 _ h1)⟩
        clear hce2
        have b2 := bits_c (HC.out).2.1 (m := 2) (by decide) 2 rfl
        have b4 := bits_c ha (m := 2) (by decide) 2 rfl
        have b3 : bits BinOp.or IntKind.u8 9 ((A0 ls &&& 2 : Nat) : Int) = ((9 ||| (A0 ls &&& 2) : Nat) : Int) := bits_or16 (a := 9) (by decide) (and_le (A0 ls) 2 ha)
        obtain ⟨d, hd⟩ : ∃ d : Nat, everyN ls &&& 1 = d := ⟨_, rfl⟩
        obtain ⟨d2, hd2⟩ : ∃ d : Nat, A1 ls &&& 2 = d := ⟨_, rfl⟩
        rw [hd2] at b2
        have Hd := Lib.hid hd
        have Hd2 := Lib.hid hd2
        clear hd hd2
        have HZ := Lib.hid (Ext.refl wr)
        go_wp2_with fail
        refine (both_any 1 (.inl rfl) _ n c ls _ (HS.out.ext (hx.trans HZ.out)) hc H16.out).mono ?_
        rintro e w3 ⟨rfl, hx3⟩
        have HZ := Lib.hid (HZ.out.trans hx3)
        have c1 := HC.out.2.2 _ (hx.trans HZ.out)
        rw [Hd.out]
        clear hx3
        by_cases h0 : d = 0
        · have Hk : Hid (keepN 8 ls = 0) := if_pos (Hd.out.trans h0)
          subst h0
          go_wp2_with fail
          go_ret2
          exact OverPost.of (hv.out.trans (by rw [Hk.out])) (hx.trans HZ.out)
        · have q1 : ((d : Int) == 0) = false := beq_eq_false_iff_ne.2 (by omega)
          by_cases h2 : d2 = 0
          · have Hk : Hid (keepN 8 ls = 0) := by
              show jourN ls = 0
              unfold jourN
              rw [if_neg (fun e => h0 (Hd.out.symm.trans e)), if_pos (Hd2.out.trans h2)]
            subst h2
            go_wp2_with fail
            go_ret2
            exact OverPost.of (hv.out.trans (by rw [Hk.out])) (hx.trans HZ.out)
          · have q2 : ((d2 : Int) == 0) = false := beq_eq_false_iff_ne.2 (by omega)
            have Hk : Hid (keepN 8 ls = 9 ||| (A0 ls &&& 2)) := by
              show jourN ls = _
              unfold jourN
              rw [if_neg (fun e => h0 (Hd.out.symm.trans e)), if_neg (fun e => h2 (Hd2.out.symm.trans e))]
            go_wp2_with fail
            go_ret2
            exact OverPost.of (hv.out.trans (by rw [Hk.out])) (hx.trans HZ.out)
end Go.Proofs.Ytbicaejpckcfbaa
