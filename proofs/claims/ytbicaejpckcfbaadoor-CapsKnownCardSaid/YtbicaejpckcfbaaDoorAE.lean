/- The statement CapsTexts walked. -/
import Derived.Test.YtbicaejpckcfbaaDoorAD
namespace Go.Proofs.YtbicaejpckcfbaaDoor
open Go.RowKit

theorem ErrAt.ext {w w' : World} (h : ErrAt w) (hx : Ext w w') : ErrAt w' := (hx.cell (World.block_lt_of_cell? w _ h)).trans h
theorem FaultAt.ext {w w' : World} {b pos : Nat} {wd : ByteArray} (h : FaultAt w b pos wd) (hx : Ext w w') : FaultAt w' b pos wd :=
  (Mod.block hx _ (Array.getElem?_eq_some_iff.1 h).1 (fun f => f)).trans h
set_option maxRecDepth 20000 in
set_option maxHeartbeats 2000000 in
theorem capsTexts_walk (c : Nat) (s : ByteArray) (m : Int) (w : World) (hs : s.size ≤ 1048576) (hm : w.cell? ⟨1, 0, none⟩ = some (.int .i64 m)) (he : ErrAt w) :
    Calls Tryd.prog 4 #[.int .u8 (c : Int), .string s] w fun e w' => e = .returned (.bool true) ∧ Ext w w' := by
  have HE := Lib.hid he
  have HM := Lib.hid hm
  clear he hm
  go_enter Tryd.func4, Tryd.ntmps4
  go_wp2_with fail
  refine (parse_any s m w hs HM.out).mono ?_
  rintro e w1 ⟨hx1, hpp⟩
  have HX1 := Lib.hid hx1
  clear hx1
  rcases hpp with ⟨hn, rfl⟩ | ⟨pos, wd, b, hpn, rfl, hbw, hfa⟩
  · obtain ⟨⟨a, o⟩, ha⟩ : ∃ q, parseN s = q := ⟨_, rfl⟩
    rw [ha] at hn ⊢
    simp only at hn
    subst hn
    have HA := Lib.hid ha
    simp only
    clear ha
    go_wp2_with fail
    refine (rparse_any s w1 hs).mono ?_
    rintro e w2 ⟨rfl, hx2⟩
    rw [HA.out]
    have HX2 := Lib.hid (HX1.out.trans hx2)
    unfold faultV
    clear hx2
    go_wp2_with fail
    refine (told_nil _).mono ?_
    rintro e w3 ⟨rfl, hx3⟩
    have HX3 := Lib.hid ((HX2.out.alloc _).trans hx3)
    have K0 : ∀ wx, Ext w3 wx → wx.cell? ⟨w2.heap.size, 0, none⟩ = some (.int .i64 0) := fun wx h => (hx3.trans h).cell_new 0
    have K1 : ∀ wx, Ext w3 wx → wx.cell? ⟨w2.heap.size, 1, none⟩ = some (.int .i64 0) := fun wx h => (hx3.trans h).cell_new 1
    have K2 : ∀ wx, Ext w3 wx → wx.cell? ⟨w2.heap.size, 2, none⟩ = some (.string ⟨#[]⟩) := fun wx h => (hx3.trans h).cell_new 2
    have c0 := K0 _ ((Ext.refl _).alloc (.cells #[.int .i64 0, .int .i64 0, .string ⟨#[]⟩] 35))
    have c1 := K1 _ ((Ext.refl _).alloc (.cells #[.int .i64 0, .int .i64 0, .string ⟨#[]⟩] 35))
    have c2 := K2 _ ((Ext.refl _).alloc (.cells #[.int .i64 0, .int .i64 0, .string ⟨#[]⟩] 35))
    have HX4 : Hid (Ext w (w3.alloc (.cells #[.int .i64 0, .int .i64 0, .string ⟨#[]⟩] 35))) := Lib.hid (HX3.out.alloc _)
    clear hx3 K0 K1 K2
    go_wp2_with fail
    refine (text_any c _).mono ?_
    rintro e w5 ⟨rfl, hx5⟩
    have HX5 := Lib.hid (HX4.out.trans hx5)
    clear hx5
    go_wp2_with fail
    refine (rtext_any c _).mono ?_
    rintro e w6 ⟨rfl, hx6⟩
    have HX6 := Lib.hid (HX5.out.trans hx6)
    clear hx6
    go_wp2_with fail
    go_ret
    exact ⟨rfl, HX6.out⟩
  · have HP := Lib.hid hpn
    have HF := Lib.hid hfa
    clear hpn hfa
    go_wp2_with fail
    refine (rparse_any s w1 hs).mono ?_
    rintro e w2 ⟨rfl, hx2⟩
    rw [HP.out]
    have HX2 := Lib.hid (HX1.out.trans hx2)
    have HF2 := Lib.hid (HF.out.ext hx2)
    unfold faultV
    clear hx2
    go_wp2_with fail
    refine (told_fault b pos wd _ (HF2.out.ext ((Ext.refl _).alloc _)) (HE.out.ext (HX2.out.alloc _))).mono ?_
    rintro e w3 ⟨rfl, hx3⟩
    have HX3 := Lib.hid ((HX2.out.alloc _).trans hx3)
    have K0 : ∀ wx, Ext w3 wx → wx.cell? ⟨w2.heap.size, 0, none⟩ = some (.int .i64 2) := fun wx h => (hx3.trans h).cell_new 0
    have K1 : ∀ wx, Ext w3 wx → wx.cell? ⟨w2.heap.size, 1, none⟩ = some (.int .i64 (pos : Int)) := fun wx h => (hx3.trans h).cell_new 1
    have K2 : ∀ wx, Ext w3 wx → wx.cell? ⟨w2.heap.size, 2, none⟩ = some (.string wd) := fun wx h => (hx3.trans h).cell_new 2
    have c0 := K0 _ ((Ext.refl _).alloc (.cells #[.int .i64 2, .int .i64 (pos : Int), .string wd] 35))
    have c1 := K1 _ ((Ext.refl _).alloc (.cells #[.int .i64 2, .int .i64 (pos : Int), .string wd] 35))
    have c2 := K2 _ ((Ext.refl _).alloc (.cells #[.int .i64 2, .int .i64 (pos : Int), .string wd] 35))
    have HX4 : Hid (Ext w (w3.alloc (.cells #[.int .i64 2, .int .i64 (pos : Int), .string wd] 35))) := Lib.hid (HX3.out.alloc _)
    clear hx3 K0 K1 K2
    go_wp2_with fail
    refine (text_any c _).mono ?_
    rintro e w5 ⟨rfl, hx5⟩
    have HX5 := Lib.hid (HX4.out.trans hx5)
    clear hx5
    go_wp2_with fail
    refine (rtext_any c _).mono ?_
    rintro e w6 ⟨rfl, hx6⟩
    have HX6 := Lib.hid (HX5.out.trans hx6)
    clear hx6
    go_wp2_with fail
    go_ret
    exact ⟨rfl, HX6.out⟩
end Go.Proofs.YtbicaejpckcfbaaDoor
