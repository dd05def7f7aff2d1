/- The document's both and fits; the plain laws of its Over. -/
import Derived.Test.YtbicaejpckcfbaaC
namespace Go.Proofs.Ytbicaejpckcfbaa
open Go.RowKit

theorem eand_zero (m : Nat) (ls : List Nat) : ∀ acc, acc &&& m = 0 → eand acc ls &&& m = 0 := by
  induction ls with
  | nil => intro acc h; exact h
  | cons x ls ih =>
    intro acc h
    refine ih _ ?_
    rw [Nat.and_assoc, Nat.and_comm x m, ← Nat.and_assoc, h, Nat.zero_and]
theorem eand_mem_zero {m x : Nat} (hx : x &&& m = 0) (ls : List Nat) : ∀ acc, x ∈ ls → eand acc ls &&& m = 0 := by
  induction ls with
  | nil => intro acc h; simp at h
  | cons y ls ih =>
    intro acc h
    rcases List.mem_cons.1 h with rfl | h
    · refine eand_zero m ls _ ?_
      rw [Nat.and_assoc, hx, Nat.and_zero]
    · exact ih _ h
theorem eand_full {m : Nat} (ls : List Nat) : ∀ acc, acc &&& m = m → (∀ x ∈ ls, x &&& m = m) → eand acc ls &&& m = m := by
  induction ls with
  | nil => intro acc h _; exact h
  | cons x ls ih =>
    intro acc h hx
    refine ih _ ?_ (fun y hy => hx y (List.mem_cons_of_mem _ hy))
    rw [Nat.and_assoc, hx x (List.mem_cons_self ..), h]
def OneBit (m : Nat) : Prop := m = 1 ∨ m = 2 ∨ m = 4 ∨ m = 8
theorem OneBit.full {m x : Nat} (hm : OneBit m) (hx : x < 16) (h : x &&& m ≠ 0) : x &&& m = m := by
  have key : ∀ x : Fin 16, (x.val &&& 1 ≠ 0 → x.val &&& 1 = 1) ∧ (x.val &&& 2 ≠ 0 → x.val &&& 2 = 2) ∧ (x.val &&& 4 ≠ 0 → x.val &&& 4 = 4) ∧ (x.val &&& 8 ≠ 0 → x.val &&& 8 = 8) := by decide
  obtain ⟨k1, k2, k4, k8⟩ := key ⟨x, hx⟩
  rcases hm with rfl | rfl | rfl | rfl
  · exact k1 h
  · exact k2 h
  · exact k4 h
  · exact k8 h
theorem OneBit.lt {m : Nat} (hm : OneBit m) : m < 16 := by rcases hm with rfl | rfl | rfl | rfl <;> decide
theorem OneBit.start {m : Nat} (hm : OneBit m) : 15 &&& m = m := by rcases hm with rfl | rfl | rfl | rfl <;> decide

set_option maxRecDepth 20000 in
theorem both_any (m : Nat) (hm : OneBit m) (A : Option Addr) (n c : Nat) (ls : List Nat) (w : World) (hs : SetSl w A n ls) (hn : n ≤ 9223372036854775807) (h16 : ∀ x ∈ ls, x < 16) :
    Calls Try.prog 20 #[.slice A n c, .int .u8 (m : Int)] w fun e w' => e = .returned (.int .u8 ((everyN ls &&& m : Nat) : Int)) ∧ Ext w w' := by
  have HS := Lib.hid hs
  have H16 := Lib.hid h16
  have Hm := Lib.hid hm
  have Hl := Lib.hid hs.1
  have hm16 := hm.lt
  clear hs h16 hm
  go_enter Try.func20, Try.ntmps20
  go_wp2_with fail
  go_loopw [5] (fun i wr => ∃ k : Nat, k ≤ n ∧ i = .int .i64 k ∧ (∀ x ∈ ls.take k, x &&& m ≠ 0) ∧ Ext w wr) (fun i _ => n - (intOf i).toNat)
  case atStart => exact ⟨0, Nat.zero_le _, rfl, fun x hx => by simp at hx, Ext.refl _⟩
  case round =>
    obtain ⟨k, hk, rfl, hne, hx⟩ := hrel
    have HN := Lib.hid hne
    clear hne
    by_cases hlt : k < n
    · obtain ⟨g, off, rfl, hg, hce⟩ := (HS.out.ext hx).2 (by omega)
      have hkl : k < ls.length := by have := Hl.out; omega
      have d0 := hce k ls[k] (List.getElem?_eq_getElem hkl)
      obtain ⟨x, hxe⟩ : ∃ x, ls[k] = x := ⟨_, rfl⟩
      have Hx : Hid (ls[k]? = some x) := by show _ = _; rw [List.getElem?_eq_getElem hkl, hxe]
      have hx16 : x < 16 := by rw [← hxe]; exact H16.out _ (List.getElem_mem hkl)
      rw [hxe] at d0
      have hb := bits_and16 hx16 hm16
      obtain ⟨d, hd⟩ : ∃ d : Nat, x &&& m = d := ⟨_, rfl⟩
      rw [hd] at hb
      have Hd := Lib.hid hd
      clear hce hxe hd
      by_cases h0 : d = 0
      · have hv : Hid (everyN ls &&& m = 0) := eand_mem_zero (Hd.out.trans h0) ls 15 (List.mem_of_getElem? Hx.out)
        subst h0
        go_wp2_with fail
        go_ret
        exact ⟨by rw [hv.out]; rfl, hx⟩
      · have q1 : ((d : Int) == 0) = false := beq_eq_false_iff_ne.2 (by omega)
        go_wp2_with fail
        go_roundw
        case rel =>
          refine ⟨k + 1, by omega, by go_num, fun y hy => ?_, hx⟩
          obtain ⟨h1, h2⟩ := List.getElem?_eq_some_iff.1 Hx.out
          rw [List.take_succ_eq_append_getElem h1] at hy
          rcases List.mem_append.1 hy with hy | hy
          · exact HN.out y hy
          · rw [List.mem_singleton.1 hy, h2, Hd.out]; exact h0
        case measure => simp [intOf]; omega
    · have hv : Hid (everyN ls &&& m = m) := by
        refine eand_full ls 15 Hm.out.start (fun x hx => Hm.out.full (H16.out x hx) ?_)
        have := HN.out
        rw [show k = ls.length from by have := Hl.out; omega, List.take_length] at this
        exact this x hx
      go_wp2_with fail
      go_ret
      exact ⟨by rw [hv.out]; rfl, hx⟩

def fitsB (k : Int) (n : Nat) : Bool := decide (0 ≤ k ∧ k < 11 ∧ leastN k.toNat ≤ n ∧ n ≤ mostN k.toNat)
theorem fits_iff (k : Int) (n : Nat) : fitsB k n = true ↔ (k = 1 ∧ 1 ≤ n ∧ n ≤ 64) ∨ ((k = 2 ∨ k = 5 ∨ k = 8) ∧ n = 2) ∨ (0 ≤ k ∧ k ≤ 10 ∧ k ≠ 1 ∧ k ≠ 2 ∧ k ≠ 5 ∧ k ≠ 8 ∧ n = 1) := by
  unfold fitsB
  rw [decide_eq_true_eq]
  by_cases h : 0 ≤ k ∧ k < 11
  · rcases (by omega : k = 0 ∨ k = 1 ∨ k = 2 ∨ k = 3 ∨ k = 4 ∨ k = 5 ∨ k = 6 ∨ k = 7 ∨ k = 8 ∨ k = 9 ∨ k = 10) with rfl | rfl | rfl | rfl | rfl | rfl | rfl | rfl | rfl | rfl | rfl <;> simp [leastN, mostN] <;> omega
  · constructor
    · rintro ⟨h1, h2, _⟩; exact absurd ⟨h1, h2⟩ h
    · intro h2; omega
set_option maxRecDepth 20000 in
theorem fits_any (k : Int) (n : Nat) (w : World) (h1 : -128 ≤ k) (h2 : k ≤ 127) (hn : n ≤ 9223372036854775807) :
    Calls Try.prog 19 #[.int .i8 k, .int .i64 n] w fun e w' => e = .returned (.bool (fitsB k n)) ∧ w' = w := by
  go_enter Try.func19, Try.ntmps19
  go_wp2
  all_goals
    go_ret
    refine ⟨?_, rfl⟩
    refine congrArg (fun b => Ending.returned (.bool b)) (?_ : _ = fitsB k n)
    rw [Bool.eq_iff_iff, fits_iff]
    simp only [beq_iff_eq, beq_eq_false_iff_ne, ne_eq, decide_eq_true_eq, Bool.false_eq_true] at *
    first | omega | (simp; omega)
end Go.Proofs.Ytbicaejpckcfbaa
