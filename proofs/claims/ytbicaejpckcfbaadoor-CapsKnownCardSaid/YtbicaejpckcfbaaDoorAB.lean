/- The law's told: no error; a fault. -/
import Derived.Test.YtbicaejpckcfbaaDoorAA
import Derived.Test.YtbicaejpckcfbaaDoorN
namespace Go.Proofs.YtbicaejpckcfbaaDoor
open Go.RowKit

/-- What errors.errorType holds. -/
def ErrAt (w : World) : Prop := w.cell? ⟨0, 0, none⟩ = some (.iface 89 (.agg #[.pointer (some ⟨4, 24, none⟩)]))
theorem heap_setCell_at {w : World} {t i : Nat} {cs : Array Value} {ty : TypeId} {fz : Nat × Nat} (hb : w.heap[t]? = some (.cells cs ty fz)) (u : Value) : (w.setCell ⟨t, i, none⟩ u).heap[t]? = some (.cells (cs.setIfInBounds i u) ty fz) := by
  simp [World.setCell, Array.getElem?_modify, hb]
set_option maxRecDepth 20000 in
theorem told_nil (w : World) : Calls Tryd.prog 13 #[.nilIface] w fun e w' => e = .returned (.tuple #[.agg #[.int .i64 0, .int .i64 0, .string ⟨#[]⟩], .bool true]) ∧ Ext w w' := by
  go_enter Tryd.func13, Tryd.ntmps13
  go_wp2_with fail
  have hc := fun i => cell_of_row _ _ i _ 35 (0, 0) (heap_alloc_new w (.cells #[.int .i64 0, .int .i64 0, .string ⟨#[]⟩] 35))
  have q0 := hc 0
  have q1 := hc 1
  have q2 := hc 2
  exact bodyPost_ret (v := .tuple #[.agg #[.int .i64 0, .int .i64 0, .string ⟨#[]⟩], .bool true]) (by simp [results, Tryd.results13, go_sem, q0, q1, q2]) rfl ⟨rfl, (Ext.refl _).alloc _⟩
set_option maxRecDepth 20000 in
set_option maxHeartbeats 1000000 in
theorem told_fault (b pos : Nat) (wd : ByteArray) (w : World) (hf : FaultAt w b pos wd) (he : ErrAt w) : Calls Tryd.prog 13 #[.iface 53 (.pointer (some ⟨b, 0, none⟩))] w fun e w' => e = .returned (.tuple #[.agg #[.int .i64 2, .int .i64 (pos : Int), .string wd], .bool true]) ∧ Ext w w' := by
  have h0 := World.block_lt_of_cell? w _ he
  have HE := Lib.hid he
  have HF := Lib.hid hf
  clear he hf
  go_enter Tryd.func13, Tryd.ntmps13
  go_wp2_with fail
  have hb : b < w.heap.size := (Array.getElem?_eq_some_iff.1 HF.out).1
  obtain ⟨w1, hw1⟩ : ∃ W, (w.alloc (.cells #[.int .i64 0, .int .i64 0, .string ⟨#[]⟩] 35)).alloc (.cells #[.pointer none] 53) = W := ⟨_, rfl⟩
  have hX1 : Ext w w1 := by rw [← hw1]; exact ((Ext.refl _).alloc _).alloc _
  have hs1 : w1.heap.size = w.heap.size + 2 := by rw [← hw1]; simp
  have hr0 : w1.heap[w.heap.size]? = some (.cells #[.int .i64 0, .int .i64 0, .string ⟨#[]⟩] 35 (0, 0)) := by
    rw [← hw1]; exact (Below.heap_alloc _ _ _ (by simp)).trans (heap_alloc_new w _)
  have hr1 : w1.heap[w.heap.size + 1]? = some (.cells #[.pointer none] 53 (0, 0)) := by
    rw [← hw1]
    have := heap_alloc_new (w.alloc (.cells #[.int .i64 0, .int .i64 0, .string ⟨#[]⟩] 35)) (.cells #[.pointer none] 53)
    have e1 : (w.alloc (.cells #[.int .i64 0, .int .i64 0, .string ⟨#[]⟩] 35)).heap.size = w.heap.size + 1 := by simp
    rwa [e1] at this
  rw [hw1]
  clear hw1
  have hc1 := cell_of_row w1 _ 0 _ 53 (0, 0) hr1
  refine (as_hit ⟨b, 0, none⟩ ⟨w.heap.size + 1, 0, none⟩ (.pointer none) w1 ((hX1.cell h0).trans HE.out) hc1 (by simp [World.frozen?, hr1])).mono ?_
  rintro e w2 ⟨rfl, hw2⟩
  have hm2 : ∃ W, Ext w1 W ∧ w2 = W.setCell ⟨w.heap.size + 1, 0, none⟩ (.pointer (some ⟨b, 0, none⟩)) := ⟨_, ((((Ext.refl _).alloc _).alloc _).alloc _).alloc _, hw2⟩
  obtain ⟨W, hXW, rfl⟩ := hm2
  clear hw2
  have hrW : W.heap[w.heap.size + 1]? = some (.cells #[.pointer none] 53 (0, 0)) := (Mod.block hXW _ (by omega) (fun f => f)).trans hr1
  have hM : Mod (fun k => k = w.heap.size + 1) w1 (W.setCell ⟨w.heap.size + 1, 0, none⟩ (.pointer (some ⟨b, 0, none⟩))) := (Mod.mono hXW (fun _ _ f => f.elim)).setCell _ _ (fun _ => rfl)
  have hX2 : Ext w (W.setCell ⟨w.heap.size + 1, 0, none⟩ (.pointer (some ⟨b, 0, none⟩))) := Ext.setCell (hX1.trans hXW) _ _ (by show w.heap.size ≤ w.heap.size + 1; omega)
  have hp := cell_of_row _ _ 0 _ 53 (0, 0) (heap_setCell_at (i := 0) hrW (.pointer (some ⟨b, 0, none⟩)))
  have hz := (hM.block w.heap.size (by omega) (by omega)).trans hr0
  have hfb := (Mod.block hX2 b hb (fun f => f)).trans HF.out
  obtain ⟨w2, hw2⟩ : ∃ V, W.setCell ⟨w.heap.size + 1, 0, none⟩ (.pointer (some ⟨b, 0, none⟩)) = V := ⟨_, rfl⟩
  rw [hw2] at hX2 hp hz hfb ⊢
  have hp' : w2.cell? ⟨w.heap.size + 1, 0, none⟩ = some (.pointer (some ⟨b, 0, none⟩)) := hp
  have g0 := cell_of_row w2 b 0 _ 35 (0, 0) hfb
  have g1 := cell_of_row w2 b 1 _ 35 (0, 0) hfb
  have g2 := cell_of_row w2 b 2 _ 35 (0, 0) hfb
  have z0 := cell_of_row w2 w.heap.size 0 _ 35 (0, 0) hz
  have z1 := cell_of_row w2 w.heap.size 1 _ 35 (0, 0) hz
  have z2 := cell_of_row w2 w.heap.size 2 _ 35 (0, 0) hz
  have zf : ∀ o, w2.frozen? ⟨w.heap.size, o, none⟩ = false := fun o => by simp [World.frozen?, hz]
  have zf0 := zf 0
  have zf1 := zf 1
  have zf2 := zf 2
  have Hz := Lib.hid hz
  have HX2 := Lib.hid hX2
  simp only [List.getElem?_toArray, List.getElem?_cons_zero, List.getElem?_cons_succ] at g0 g1 g2 z0 z1 z2
  clear hp hz hfb hX2 hw2 hM hrW hXW hX1 hr0 hr1 hc1 hs1 zf
  go_wp2_with fail
  have hF := heap_setCell_at (i := 2) (heap_setCell_at (i := 1) (heap_setCell_at (i := 0) Hz.out (.int .i64 2)) (.int .i64 (pos : Int))) (.string wd)
  have hc := fun i => cell_of_row _ _ i _ 35 (0, 0) hF
  have q0 := hc 0
  have q1 := hc 1
  have q2 := hc 2
  have hX3 : Ext w (((w2.setCell ⟨w.heap.size, 0, none⟩ (.int .i64 2)).setCell ⟨w.heap.size, 1, none⟩ (.int .i64 (pos : Int))).setCell ⟨w.heap.size, 2, none⟩ (.string wd)) := ((HX2.out.setCell _ _ (Nat.le_refl _)).setCell _ _ (Nat.le_refl _)).setCell _ _ (Nat.le_refl _)
  obtain ⟨w3, hw3⟩ : ∃ V, (((w2.setCell ⟨w.heap.size, 0, none⟩ (.int .i64 2)).setCell ⟨w.heap.size, 1, none⟩ (.int .i64 (pos : Int))).setCell ⟨w.heap.size, 2, none⟩ (.string wd)) = V := ⟨_, rfl⟩
  rw [hw3] at q0 q1 q2 hX3 ⊢
  have p0 : w3.cell? ⟨w.heap.size, 0, none⟩ = some (.int .i64 2) := q0
  have p1 : w3.cell? ⟨w.heap.size, 1, none⟩ = some (.int .i64 (pos : Int)) := q1
  have p2 : w3.cell? ⟨w.heap.size, 2, none⟩ = some (.string wd) := q2
  exact bodyPost_ret (v := .tuple #[.agg #[.int .i64 2, .int .i64 (pos : Int), .string wd], .bool true]) (by simp [results, Tryd.results13, go_sem, p0, p1, p2]) rfl ⟨rfl, hX3⟩
end Go.Proofs.YtbicaejpckcfbaaDoor
