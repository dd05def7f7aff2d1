/- The few answers that each statement asks. -/
import Derived.Test.YtbicaejpckcfbaaDoorG
namespace Go.Proofs.YtbicaejpckcfbaaDoor
open Go.RowKit

set_option maxRecDepth 20000 in
set_option maxHeartbeats 1000000 in
theorem works_any (w : World) : Calls Tryd.prog 6 #[] w fun e w' => e = .returned (.bool true) ∧ Ext w w' := by
  have v1 : Hid (overN 0 [15] = (13, 0)) := Lib.hid (by decide)
  have v2 : Hid (overN 2 [15, 3] = (7, 0)) := Lib.hid (by decide)
  have v3 : Hid (overN 2 [15] = (0, 2)) := Lib.hid (by decide)
  have t9 : Hid (textN 9 = ⟨#[119, 114, 105, 116, 101, 32, 115, 121, 110, 99]⟩) := Lib.hid (by decide +kernel)
  have t0 : Hid (textN 0 = ⟨#[114, 101, 97, 100]⟩) := Lib.hid rfl
  have l1 : Hid (lessB 1 9 = true) := Lib.hid (by decide)
  have l2 : Hid (lessB 9 1 = false) := Lib.hid (by decide)
  go_enter Tryd.func6, Tryd.ntmps6
  go_wp2_with fail
  refine (over_any 0 0 0 0 (some ⟨w.heap.size, 0, none⟩) 1 1 [15] _ (SetSl.made w [15] _ rfl) (by decide) (by decide) (by decide)).mono ?_
  rintro e w1 ⟨rfl, hx1⟩
  rw [v1.out]
  go_wp2_with fail
  refine (over_any 2 0 0 0 (some ⟨w1.heap.size, 0, none⟩) 2 2 [15, 3] _ (SetSl.made w1 [15, 3] _ rfl) (by decide) (by decide) (by decide)).mono ?_
  rintro e w2 ⟨rfl, hx2⟩
  rw [v2.out]
  go_wp2_with fail
  refine (over_any 2 0 0 0 (some ⟨w2.heap.size, 0, none⟩) 1 1 [15] _ (SetSl.made w2 [15] _ rfl) (by decide) (by decide) (by decide)).mono ?_
  rintro e w3 ⟨rfl, hx3⟩
  rw [v3.out]
  go_wp2_with fail
  refine (text_any 9 _).mono ?_
  rintro e w4 ⟨rfl, hx4⟩
  rw [t9.out]
  go_wp2_with fail
  refine (text_any 0 _).mono ?_
  rintro e w5 ⟨rfl, hx5⟩
  rw [t0.out]
  go_wp2_with fail
  refine (less_any 1 9 (by decide) (by decide) _).mono ?_
  rintro e w6 ⟨rfl, rfl⟩
  rw [l1.out]
  go_wp2_with fail
  refine (less_any 9 1 (by decide) (by decide) _).mono ?_
  rintro e w7 ⟨rfl, rfl⟩
  rw [l2.out]
  go_wp2_with fail
  go_ret
  exact ⟨rfl, ((Ext.refl _).alloc _).trans (hx1.trans (((Ext.refl _).alloc _).trans (hx2.trans (((Ext.refl _).alloc _).trans (hx3.trans (hx4.trans hx5))))))⟩
end Go.Proofs.YtbicaejpckcfbaaDoor
