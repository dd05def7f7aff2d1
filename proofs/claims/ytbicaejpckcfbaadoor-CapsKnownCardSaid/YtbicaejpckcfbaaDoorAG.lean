/- The statement CapsKnown walked. -/
import Derived.Test.YtbicaejpckcfbaaDoorAE
import Derived.Test.YtbicaejpckcfbaaDoorP
namespace Go.Proofs.YtbicaejpckcfbaaDoor
open Go.RowKit

theorem two_wraps (w : World) (a b : Int) : WrSl (w.alloc (.cells #[.int .i8 a, .int .i64 0, .int .i64 0, .int .u64 0, .int .i8 b, .int .i64 0, .int .i64 0, .int .u64 0] 46)) (some ⟨w.heap.size, 0, none⟩) 2 [⟨a, 0, 0, 0⟩, ⟨b, 0, 0, 0⟩] :=
  ⟨rfl, fun _ => ⟨w.heap.size, 0, rfl, by simp, fun k x hk => by
    have c := fun j => (Ext.refl (w.alloc (.cells #[.int .i8 a, .int .i64 0, .int .i64 0, .int .u64 0, .int .i8 b, .int .i64 0, .int .i64 0, .int .u64 0] 46))).cell_new j
    rcases k with _ | _ | k
    · cases hk; exact ⟨c 0, c 1, c 2, c 3⟩
    · cases hk; exact ⟨c 4, c 5, c 6, c 7⟩
    · cases hk⟩⟩
set_option maxRecDepth 20000 in
set_option maxHeartbeats 4000000 in
theorem capsKnown_walk (m : Int) (w : World) (hm : w.cell? ⟨1, 0, none⟩ = some (.int .i64 m)) (he : ErrAt w) : Calls Tryd.prog 5 #[] w fun e w' => e = .returned (.bool true) ∧ Ext w w' := by
  have HE := Lib.hid he
  have HM : Hid (∀ wx, Ext w wx → wx.cell? ⟨1, 0, none⟩ = some (.int .i64 m)) := Lib.hid (fun wx hx => (hx.cell (World.block_lt_of_cell? w _ hm)).trans hm)
  have v1 : Hid (overN 8 [15, 1] = (0, 0)) := Lib.hid (by decide)
  have v2 : Hid (overN 4 [1] = (9, 0)) := Lib.hid (by decide)
  have v3 : Hid (overN 11 [15] = (0, 2)) := Lib.hid (by decide)
  have v4 : Hid (overN 3 [16] = (0, 2)) := Lib.hid (by decide)
  have v5 : Hid (stackN [⟨7, 0, 0, 0⟩, ⟨1, 0, 0, 0⟩] 15 = (9, 0)) := Lib.hid (by decide)
  have v6 : Hid (parseN ⟨#[115, 121, 110, 99, 32, 119, 114, 105, 116, 101]⟩ = (0, some (5, ⟨#[119, 114, 105, 116, 101]⟩))) := Lib.hid (by decide +kernel)
  have v7 : Hid (parseN ⟨#[119, 114, 105, 116, 101, 32, 32, 99, 117, 116]⟩ = (0, some (6, ⟨#[]⟩))) := Lib.hid (by decide +kernel)
  clear hm he
  go_enter Tryd.func5, Tryd.ntmps5
  go_wp2_with fail
  refine (over_any 8 0 0 0 (some ⟨w.heap.size, 0, none⟩) 2 2 [15, 1] _ (SetSl.made w [15, 1] _ rfl) (by decide) (by decide) (by decide)).mono ?_
  rintro e w1 ⟨rfl, hx1⟩
  rw [v1.out]
  have HX1 := Lib.hid (((Ext.refl w).alloc _).trans hx1)
  clear hx1
  go_wp2_with fail
  refine (over_any 4 0 0 0 (some ⟨w1.heap.size, 0, none⟩) 1 1 [1] _ (SetSl.made w1 [1] _ rfl) (by decide) (by decide) (by decide)).mono ?_
  rintro e w2 ⟨rfl, hx2⟩
  rw [v2.out]
  have HX2 := Lib.hid ((HX1.out.alloc _).trans hx2)
  clear hx2
  go_wp2_with fail
  refine (over_any 11 0 0 0 (some ⟨w2.heap.size, 0, none⟩) 1 1 [15] _ (SetSl.made w2 [15] _ rfl) (by decide) (by decide) (by decide)).mono ?_
  rintro e w3 ⟨rfl, hx3⟩
  rw [v3.out]
  have HX3 := Lib.hid ((HX2.out.alloc _).trans hx3)
  clear hx3
  go_wp2_with fail
  refine (over_any 3 0 0 0 (some ⟨w3.heap.size, 0, none⟩) 1 1 [16] _ (SetSl.made w3 [16] _ rfl) (by decide) (by decide) (by decide)).mono ?_
  rintro e w4 ⟨rfl, hx4⟩
  rw [v4.out]
  have HX4 := Lib.hid ((HX3.out.alloc _).trans hx4)
  clear hx4
  go_wp2_with fail
  refine (stack_any (some ⟨w4.heap.size, 0, none⟩) 2 2 [⟨7, 0, 0, 0⟩, ⟨1, 0, 0, 0⟩] 15 _ (two_wraps w4 7 1) (fun x hx => by
    rcases List.mem_cons.1 hx with rfl | hx
    · exact ⟨by decide, by decide⟩
    · obtain rfl := List.mem_singleton.1 hx; exact ⟨by decide, by decide⟩) (by decide)).mono ?_
  rintro e w5 ⟨rfl, hx5⟩
  rw [v5.out]
  have HX5 := Lib.hid ((HX4.out.alloc _).trans hx5)
  clear hx5
  go_wp2_with fail
  refine (parse_any _ m _ (by decide) (HM.out _ HX5.out)).mono ?_
  rintro e w6 ⟨hx6, hpp⟩
  rw [v6.out] at hpp
  rcases hpp with ⟨hn, -⟩ | ⟨pos, wd, b, hpn, rfl, hbw, hfa⟩
  · cases hn
  obtain ⟨rfl, rfl⟩ : pos = 5 ∧ wd = ⟨#[119, 114, 105, 116, 101]⟩ := by
    injection hpn with _ h; injection h with h; injection h with h1 h2; exact ⟨h1.symm, h2.symm⟩
  have HX6 := Lib.hid (HX5.out.trans hx6)
  clear hx6 hpn
  go_wp2_with fail
  refine (told_fault b 5 _ _ hfa (HE.out.ext HX6.out)).mono ?_
  rintro e w7 ⟨rfl, hx7⟩
  have HX7 := Lib.hid (HX6.out.trans hx7)
  have K0 : ∀ wx, Ext (w7.alloc (.cells #[.int .i64 2, .int .i64 5, .string ⟨#[119, 114, 105, 116, 101]⟩] 35)) wx → wx.cell? ⟨w7.heap.size, 0, none⟩ = some (.int .i64 2) := fun wx h => h.cell_new 0
  have K1 : ∀ wx, Ext (w7.alloc (.cells #[.int .i64 2, .int .i64 5, .string ⟨#[119, 114, 105, 116, 101]⟩] 35)) wx → wx.cell? ⟨w7.heap.size, 1, none⟩ = some (.int .i64 5) := fun wx h => h.cell_new 1
  have K2 : ∀ wx, Ext (w7.alloc (.cells #[.int .i64 2, .int .i64 5, .string ⟨#[119, 114, 105, 116, 101]⟩] 35)) wx → wx.cell? ⟨w7.heap.size, 2, none⟩ = some (.string ⟨#[119, 114, 105, 116, 101]⟩) := fun wx h => h.cell_new 2
  have HK0 := Lib.hid K0
  have HK1 := Lib.hid K1
  have HK2 := Lib.hid K2
  clear hx7 hfa hbw K0 K1 K2
  go_wp2_with fail
  refine (parse_any _ m _ (by decide) (HM.out _ (HX7.out.alloc _))).mono ?_
  rintro e w8 ⟨hx8, hpp⟩
  rw [v7.out] at hpp
  rcases hpp with ⟨hn, -⟩ | ⟨pos, wd, b, hpn, rfl, hbw, hfa⟩
  · cases hn
  obtain ⟨rfl, rfl⟩ : pos = 6 ∧ wd = ⟨#[]⟩ := by
    injection hpn with _ h; injection h with h; injection h with h1 h2; exact ⟨h1.symm, h2.symm⟩
  have HX8 := Lib.hid ((HX7.out.alloc _).trans hx8)
  have HX78 := Lib.hid hx8
  clear hx8 hpn
  go_wp2_with fail
  refine (told_fault b 6 _ _ hfa (HE.out.ext HX8.out)).mono ?_
  rintro e w9 ⟨rfl, hx9⟩
  have HX9 := Lib.hid (HX8.out.trans hx9)
  have q0 := HK0.out (w9.alloc (.cells #[.int .i64 2, .int .i64 6, .string ⟨#[]⟩] 35)) ((HX78.out.trans hx9).alloc _)
  have q1 := HK1.out (w9.alloc (.cells #[.int .i64 2, .int .i64 6, .string ⟨#[]⟩] 35)) ((HX78.out.trans hx9).alloc _)
  have q2 := HK2.out (w9.alloc (.cells #[.int .i64 2, .int .i64 6, .string ⟨#[]⟩] 35)) ((HX78.out.trans hx9).alloc _)
  have HX10 : Hid (Ext w (w9.alloc (.cells #[.int .i64 2, .int .i64 6, .string ⟨#[]⟩] 35))) := Lib.hid (HX9.out.alloc _)
  clear hx9 hfa hbw
  go_wp2_with fail
  refine (works_any _).mono ?_
  rintro e w11 ⟨rfl, hx11⟩
  have HX11 := Lib.hid (HX10.out.trans hx11)
  clear hx11
  go_wp2_with fail
  go_ret
  exact ⟨rfl, HX11.out⟩
end Go.Proofs.YtbicaejpckcfbaaDoor
