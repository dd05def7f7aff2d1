/- The few answers that each statement asks. -/
import Derived.Test.YtbicaejpckcfbaaG
namespace Go.Proofs.Ytbicaejpckcfbaa
open Go.RowKit

theorem SetSl.made (w : World) (ls : List Nat) (vs : Array Value) (hv : vs.toList = ls.map fun x => .int .u8 (x : Int)) : SetSl (w.alloc (.cells vs 5)) (some ⟨w.heap.size, 0, none⟩) ls.length ls := by
  refine ⟨rfl, fun _ => ⟨w.heap.size, 0, rfl, by simp, fun k x hk => ?_⟩⟩
  rw [cell_of_row _ _ _ _ 5 (0, 0) (heap_alloc_new w _), Nat.zero_add, ← Array.getElem?_toList, hv]
  simp [hk]

set_option maxRecDepth 20000 in
set_option maxHeartbeats 1000000 in
theorem works_any (w : World) : Calls Try.prog 11 #[] w fun e w' => e = .returned (.bool true) ∧ Ext w w' := by
  have v1 : Hid (overN 0 [15] = (13, 0)) := Lib.hid (by decide)
  have v2 : Hid (overN 2 [15, 3] = (7, 0)) := Lib.hid (by decide)
  have v3 : Hid (overN 2 [15] = (0, 2)) := Lib.hid (by decide)
  go_enter Try.func11, Try.ntmps11
  go_wp2_with fail
  refine (over_any 0 0 0 0 (some ⟨w.heap.size, 0, none⟩) 1 1 [15] _ (SetSl.made w [15] _ rfl) (by decide) (by decide) (by decide)).mono ?_
  rintro e w1 ⟨rfl, hx1⟩
  rw [v1.out]
  go_wp2_with fail
  refine (over_any 2 0 0 0 (some ⟨w1.heap.size, 0, none⟩) 2 2 [15, 3] _ (SetSl.made w1 [15, 3] _ rfl) (by decide) (by decide) (by decide)).mono ?_
  rintro e w2 ⟨rfl, hx2⟩
  rw [v2.out]
  go_wp2_with fail
  refine (over_any 2 0 0 0 (some ⟨w2.heap.size, 0, none⟩) 1 1 [15] _ (SetSl.made w2 [15] _ rfl) (by decide) (by decide) (by decide)).mono ?_
  rintro e w3 ⟨rfl, hx3⟩
  rw [v3.out]
  go_wp2_with fail
  refine (text9 _).mono ?_
  rintro e w4 ⟨rfl, hx4⟩
  go_wp2_with fail
  refine (text0 _).mono ?_
  rintro e w5 ⟨rfl, rfl⟩
  go_wp2_with fail
  refine (less19 _).mono ?_
  rintro e w6 ⟨rfl, rfl⟩
  go_wp2_with fail
  refine (less91 _).mono ?_
  rintro e w7 ⟨rfl, rfl⟩
  go_wp2_with fail
  go_ret
  exact ⟨rfl, ((Ext.refl _).alloc _).trans (hx1.trans (((Ext.refl _).alloc _).trans (hx2.trans (((Ext.refl _).alloc _).trans (hx3.trans hx4)))))⟩
end Go.Proofs.Ytbicaejpckcfbaa
