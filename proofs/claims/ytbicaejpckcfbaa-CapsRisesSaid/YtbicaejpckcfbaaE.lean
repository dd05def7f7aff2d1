/- The document's Over where the wrapper fits not; plain facts on four bits. -/
import Derived.Test.YtbicaejpckcfbaaD
namespace Go.Proofs.Ytbicaejpckcfbaa
open Go.RowKit

theorem fits_not {k : Int} {ls : List Nat} {n : Nat} (hn : n = ls.length) (h : fitsB k n = false) : overN k ls = (0, 2) := by
  subst hn
  unfold fitsB at h
  rw [decide_eq_false_iff_not] at h
  unfold overN
  by_cases h1 : k < 0 ∨ 11 ≤ k
  · exact if_pos h1
  · rw [if_neg h1, if_pos (by omega)]
theorem fits_yes {k : Nat} {n : Nat} (hk : k < 11) (h1 : leastN k ≤ n) (h2 : n ≤ mostN k) : fitsB k n = true := by
  unfold fitsB
  rw [decide_eq_true_eq]
  exact ⟨by omega, by omega, by simpa using h1, by simpa using h2⟩
theorem or13 {a : Nat} (h : a < 16) : ((a &&& 1) ||| (a &&& 4)) ||| (a &&& 8) = a &&& 13 := by
  have : ∀ a : Fin 16, ((a.val &&& 1) ||| (a.val &&& 4)) ||| (a.val &&& 8) = a.val &&& 13 := by decide
  exact this ⟨a, h⟩
theorem or11 {a : Nat} (h : a < 16) : ((a &&& 1) ||| (a &&& 2)) ||| (a &&& 8) = a &&& 11 := by
  have : ∀ a : Fin 16, ((a.val &&& 1) ||| (a.val &&& 2)) ||| (a.val &&& 8) = a.val &&& 11 := by decide
  exact this ⟨a, h⟩
theorem or9 {a : Nat} (h : a < 16) : (a &&& 1) ||| (a &&& 8) = a &&& 9 := by
  have : ∀ a : Fin 16, (a.val &&& 1) ||| (a.val &&& 8) = a.val &&& 9 := by decide
  exact this ⟨a, h⟩
theorem and15 {a : Nat} (h : a < 16) : a &&& 15 = a := by
  have : ∀ a : Fin 16, a.val &&& 15 = a.val := by decide
  exact this ⟨a, h⟩
theorem buf_0 {a : Nat} (h : a < 16) (h1 : a &&& 1 = 0) : bufN a = (a &&& 3) ||| (a &&& 8) := by
  have : ∀ a : Fin 16, a.val &&& 1 = 0 → bufN a.val = (a.val &&& 3) ||| (a.val &&& 8) := by decide
  exact this ⟨a, h⟩ h1
theorem buf_1 {a : Nat} (h : a < 16) (h1 : a &&& 1 ≠ 0) : bufN a = (a &&& 3) ||| 8 := by
  have : ∀ a : Fin 16, a.val &&& 1 ≠ 0 → bufN a.val = (a.val &&& 3) ||| 8 := by decide
  exact this ⟨a, h⟩ h1
theorem cip_0 {a : Nat} (h : a < 16) (h1 : a &&& 3 ≠ 3) : cipN a = (a &&& 9) ||| 0 := by
  have : ∀ a : Fin 16, a.val &&& 3 ≠ 3 → cipN a.val = (a.val &&& 9) ||| 0 := by decide
  exact this ⟨a, h⟩ h1
theorem cip_1 {a : Nat} (h : a < 16) (h1 : a &&& 3 = 3) : cipN a = (a &&& 9) ||| 2 := by
  have : ∀ a : Fin 16, a.val &&& 3 = 3 → cipN a.val = (a.val &&& 9) ||| 2 := by decide
  exact this ⟨a, h⟩ h1
theorem or_small {a b : Nat} (h : a < 16) (h2 : b < 16) : a ||| b < 16 := by
  have : ∀ a b : Fin 16, a.val ||| b.val < 16 := by decide
  exact this ⟨a, h⟩ ⟨b, h2⟩

set_option maxRecDepth 20000 in
set_option maxHeartbeats 1000000 in
theorem refover_not (kd N M K : Int) (A : Option Addr) (n c : Nat) (ls : List Nat) (w : World) (hn : n = ls.length) (h : fitsB kd n = false) (h1 : -128 ≤ kd) (h2 : kd ≤ 127) (hc : n ≤ 9223372036854775807) :
    Calls Try.prog 9 #[.agg #[.int .i8 kd, .int .i64 N, .int .i64 M, .int .u64 K], .slice A n c] w (OverPost kd ls w) := by
  have hv : Hid (overN kd ls = (0, 2)) := fits_not hn h
  have Hf := Lib.hid h
  have e0 : Ext w (w.alloc (.cells #[.int .i8 kd, .int .i64 N, .int .i64 M, .int .u64 K] 25)) := (Ext.refl _).alloc _
  clear hn h
  go_enter Try.func9, Try.ntmps9
  go_wp2_with (go_at_call 19; refine (fits_any kd n _ h1 h2 hc).mono ?_; rintro e w1 ⟨rfl, rfl⟩; rw [Hf.out])
  go_ret2
  exact OverPost.of hv.out e0
end Go.Proofs.Ytbicaejpckcfbaa
