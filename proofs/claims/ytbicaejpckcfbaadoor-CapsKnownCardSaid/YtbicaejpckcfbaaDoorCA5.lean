/- caps.Over at the wrapper of number 5. -/
import Derived.Test.YtbicaejpckcfbaaDoorC
namespace Go.Proofs.YtbicaejpckcfbaaDoor
open Go.RowKit

set_option maxRecDepth 20000 in
set_option maxHeartbeats 1000000 in
theorem over_5 (N M K : Int) (A : Option Addr) (n c : Nat) (ls : List Nat) (w : World) (hs : SetSl w A n ls) (hc : n ≤ 9223372036854775807) :
    Calls Tryd.prog 15 #[.agg #[.int .i8 5, .int .i64 N, .int .i64 M, .int .u64 K], .slice A n c] w (OverPost 5 ls w) := by
  have e0 : Ext w (w.alloc (.cells #[.int .i8 5, .int .i64 N, .int .i64 M, .int .u64 K] 46)) := (Ext.refl _).alloc _
  have q0 : ∀ wx, Ext (w.alloc (.cells #[.int .i8 5, .int .i64 N, .int .i64 M, .int .u64 K] 46)) wx → wx.cell? ⟨w.heap.size, 0, none⟩ = some (.int .i8 5) := fun wx h => h.cell_new 0
  have q1 : ∀ wx, Ext (w.alloc (.cells #[.int .i8 5, .int .i64 N, .int .i64 M, .int .u64 K] 46)) wx → wx.cell? ⟨w.heap.size, 1, none⟩ = some (.int .i64 N) := fun wx h => h.cell_new 1
  have q2 : ∀ wx, Ext (w.alloc (.cells #[.int .i8 5, .int .i64 N, .int .i64 M, .int .u64 K] 46)) wx → wx.cell? ⟨w.heap.size, 2, none⟩ = some (.int .i64 M) := fun wx h => h.cell_new 2
  have q3 : ∀ wx, Ext (w.alloc (.cells #[.int .i8 5, .int .i64 N, .int .i64 M, .int .u64 K] 46)) wx → wx.cell? ⟨w.heap.size, 3, none⟩ = some (.int .u64 K) := fun wx h => h.cell_new 3
  have qs : ∀ wx, Ext (w.alloc (.cells #[.int .i8 5, .int .i64 N, .int .i64 M, .int .u64 K] 46)) wx → w.heap.size < wx.heap.size := fun wx h => h.lt_new
  have HS := Lib.hid hs
  have Hl := Lib.hid hs.1
  clear hs
  go_enter Tryd.func15, Tryd.ntmps15
  go_wp2_with fail
  refine (table_any _).mono ?_
  rintro e w1 ⟨b, p0, p3, p6, p9, p10, rfl, hx1, hTb⟩
  have HTb := Lib.hid hTb
  have c0 : w1.cell? ⟨b, 5 * 3, none⟩ = _ := cell_of_row w1 b (5 * 3) _ 62 (0, 0) hTb.blk
  have c1 : w1.cell? ⟨b, 5 * 3 + 1, none⟩ = _ := cell_of_row w1 b (5 * 3 + 1) _ 62 (0, 0) hTb.blk
  have c2 : w1.cell? ⟨b, 5 * 3 + 2, none⟩ = _ := cell_of_row w1 b (5 * 3 + 2) _ 62 (0, 0) hTb.blk
  simp [tabCells, fn0, fnK] at c0 c1 c2
  have hw0 := q0 _ hx1
  clear hTb q0 q1 q2 q3 qs
  have E1 : Hid (Ext w w1) := e0.trans hx1
  clear e0
  by_cases hf : n < 2 ∨ 2 < n
  · have hv : Hid (overN 5 ls = (0, 2)) := over_few (k := 5) (by decide) (by have := Hl.out; show ls.length < 2 ∨ 2 < ls.length; omega)
    go_wp2_with fail
    all_goals
      go_ret2
      exact OverPost.of hv.out (by first | exact E1.out.alloc _ | exact E1.out)
  · obtain ⟨hf1, hf2⟩ : 2 ≤ n ∧ n ≤ 2 := by omega
    clear hf
    go_wp2_with fail
    have HX1 : Hid (Ext w1 (w1.alloc (.cells #[.int .i64 2, .int .i64 2, .func (.func 36) #[] #[]] 62))) := (Ext.refl _).alloc _
    go_loopw [41] (fun i wr => ∃ k : Nat, k ≤ n ∧ i = .int .i64 k ∧ (∀ x ∈ ls.take k, x < 16) ∧ Ext (w1.alloc (.cells #[.int .i64 2, .int .i64 2, .func (.func 36) #[] #[]] 62)) wr) (fun i _ => n - (intOf i).toNat)
    case atStart => exact ⟨0, Nat.zero_le _, rfl, fun x hx => by simp at hx, Ext.refl _⟩
    case round =>
      obtain ⟨k, hk, rfl, h16, hx0⟩ := hrel
      have H16k := Lib.hid h16
      have hx2 : Ext w1 wr := HX1.out.trans hx0
      have hx : Ext w wr := E1.out.trans hx2
      clear h16
      by_cases hlt : k < n
      · obtain ⟨g, off, rfl, hg, hce⟩ := (HS.out.ext hx).2 (by omega)
        have hkl : k < ls.length := by have := Hl.out; omega
        have d0 := hce k ls[k] (List.getElem?_eq_getElem hkl)
        obtain ⟨x, hxe⟩ : ∃ x, ls[k] = x := ⟨_, rfl⟩
        have Hx : Hid (ls[k]? = some x) := by show _ = _; rw [List.getElem?_eq_getElem hkl, hxe]
        rw [hxe] at d0
        clear hce hxe
        by_cases hbig : 15 < x
        · have hv : Hid (overN 5 ls = (0, 2)) := over_big (k := 5) (by decide) Hx.out hbig
          go_wp2_with fail
          go_ret2
          exact OverPost.of hv.out hx
        · go_wp2_with fail
          go_roundw
          case rel =>
            refine ⟨k + 1, by omega, by go_num, fun y hy => ?_, hx0⟩
            obtain ⟨h1, h2⟩ := List.getElem?_eq_some_iff.1 Hx.out
            rw [List.take_succ_eq_append_getElem h1] at hy
            rcases List.mem_append.1 hy with hy | hy
            · exact H16k.out y hy
            · rw [List.mem_singleton.1 hy, h2]; omega
          case measure => simp [intOf]; omega
      · have H16 : Hid (∀ x ∈ ls, x < 16) := by
          have := H16k.out
          rw [show k = ls.length from by have := Hl.out; omega, List.take_length] at this
          exact this
        have hv : Hid (overN 5 ls = (keepN 5 ls, 0)) := over_ok (k := 5) (by decide) (by have := Hl.out; show 2 ≤ ls.length; omega) (by have := Hl.out; show ls.length ≤ 2; omega) H16.out
        have j0 : wr.cell? ⟨w1.heap.size, 2, none⟩ = some (.func (.func 36) #[] #[]) := hx0.cell_new 2
        have HX2 := Lib.hid hx2
        go_wp2_with fail
        refine (k27_any _ n c ls wr (HS.out.ext hx) H16.out hc).mono ?_
        rintro e w3 ⟨rfl, hx3⟩
        go_wp2_with fail
        go_ret2
        exact OverPost.of hv.out (hx.trans hx3)
end Go.Proofs.YtbicaejpckcfbaaDoor
