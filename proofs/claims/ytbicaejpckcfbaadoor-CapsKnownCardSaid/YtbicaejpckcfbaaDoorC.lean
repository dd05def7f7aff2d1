/- caps.Over at each kind of wrapper. -/
import Derived.Test.YtbicaejpckcfbaaDoorB
namespace Go.Proofs.YtbicaejpckcfbaaDoor
open Go.RowKit

def OverPost (k : Int) (ls : List Nat) (w : World) (e : Ending) (w' : World) : Prop := e = .returned (.tuple #[.int .u8 ((overN k ls).1 : Int), .int .i64 (overN k ls).2]) ∧ Ext w w'
theorem OverPost.of {k : Int} {ls : List Nat} {w w' : World} {a : Nat} {b : Int} (h : overN k ls = (a, b)) (he : Ext w w') : OverPost k ls w (.returned (.tuple #[.int .u8 (a : Int), .int .i64 b])) w' := by
  unfold OverPost
  rw [h]
  exact ⟨rfl, he⟩
theorem over_few {k : Nat} {ls : List Nat} (hk : k < 11) (h : ls.length < leastN k ∨ mostN k < ls.length) : overN k ls = (0, 2) := by
  unfold overN
  rw [if_neg (by omega), if_pos (by simpa using h)]
theorem over_big {k : Nat} {ls : List Nat} (hk : k < 11) {i x : Nat} (hx : ls[i]? = some x) (hb : 15 < x) : overN k ls = (0, 2) := by
  unfold overN
  rw [if_neg (by omega)]
  split
  · rfl
  · rw [if_pos (List.any_eq_true.2 ⟨x, List.mem_of_getElem? hx, by simpa using hb⟩)]
theorem over_ok {k : Nat} {ls : List Nat} (hk : k < 11) (h1 : leastN k ≤ ls.length) (h2 : ls.length ≤ mostN k) (h : ∀ x ∈ ls, x < 16) : overN k ls = (keepN k ls, 0) := by
  unfold overN
  rw [if_neg (by omega), if_neg (by simp; omega), if_neg]
  · simp
  · intro he
    obtain ⟨x, hx, hb⟩ := List.any_eq_true.1 he
    have := h x hx
    simp at hb
    omega

set_option maxRecDepth 20000 in
set_option maxHeartbeats 1000000 in
theorem over_out (kd N M K : Int) (A : Option Addr) (n c : Nat) (ls : List Nat) (w : World) (h : kd < 0 ∨ 11 ≤ kd) (h1 : -128 ≤ kd) (h2 : kd ≤ 127) :
    Calls Tryd.prog 15 #[.agg #[.int .i8 kd, .int .i64 N, .int .i64 M, .int .u64 K], .slice A n c] w (OverPost kd ls w) := by
  have hv : Hid (overN kd ls = (0, 2)) := if_pos h
  have e0 : Ext w (w.alloc (.cells #[.int .i8 kd, .int .i64 N, .int .i64 M, .int .u64 K] 46)) := (Ext.refl _).alloc _
  have q0 : ∀ wx, Ext (w.alloc (.cells #[.int .i8 kd, .int .i64 N, .int .i64 M, .int .u64 K] 46)) wx → wx.cell? ⟨w.heap.size, 0, none⟩ = some (.int .i8 kd) := fun wx h => h.cell_new 0
  have q1 : ∀ wx, Ext (w.alloc (.cells #[.int .i8 kd, .int .i64 N, .int .i64 M, .int .u64 K] 46)) wx → wx.cell? ⟨w.heap.size, 1, none⟩ = some (.int .i64 N) := fun wx h => h.cell_new 1
  have q2 : ∀ wx, Ext (w.alloc (.cells #[.int .i8 kd, .int .i64 N, .int .i64 M, .int .u64 K] 46)) wx → wx.cell? ⟨w.heap.size, 2, none⟩ = some (.int .i64 M) := fun wx h => h.cell_new 2
  have q3 : ∀ wx, Ext (w.alloc (.cells #[.int .i8 kd, .int .i64 N, .int .i64 M, .int .u64 K] 46)) wx → wx.cell? ⟨w.heap.size, 3, none⟩ = some (.int .u64 K) := fun wx h => h.cell_new 3
  have qs : ∀ wx, Ext (w.alloc (.cells #[.int .i8 kd, .int .i64 N, .int .i64 M, .int .u64 K] 46)) wx → w.heap.size < wx.heap.size := fun wx h => h.lt_new
  have hw : IntKind.i64.wrap kd = kd := IntWalk.i64_in _ (by omega)
  go_enter Tryd.func15, Tryd.ntmps15
  go_wp2_with (go_at_call 22; refine (table_any _).mono ?_; rintro e w1 ⟨b, p0, p3, p6, p9, p10, rfl, hx1, hTb⟩; have Htb := Lib.hid hTb; clear hTb)
  all_goals
    go_ret2
    exact OverPost.of hv.out (e0.trans hx1)
end Go.Proofs.YtbicaejpckcfbaaDoor
