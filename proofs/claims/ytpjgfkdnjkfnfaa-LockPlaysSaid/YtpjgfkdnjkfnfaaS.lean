/- How the laws' arguments read: a slice of locks. -/
import Derived.Test.YtpjgfkdnjkfnfaaQ
import Derived.Test.YtpjgfkdnjkfnfaaRows
import Derived.ProofKit
import Derived.OpenShut
import Derived.ShutString
import Derived.ChangeOld
import Derived.Below
import Derived.Lib.SmallJoins
import Derived.Deep.Slices
namespace Go.Proofs.Ytpjgfkdnjkfnfaa
open Go.ChangeShapes Go.WideShapes Go.ChangeAt Go.RowKit Go.Joins Go.Deep

theorem own_ : ownKnob Try.prog.godebug = none := by kernel_rfl
theorem laidOut_ : laidOutB Try.prog = true := by kernel_rfl

section
variable {H : Type} {enc : TypeId × Value → H} {w : World} {base : Nat} {spare : Nat → Bool} {held : Bool}
theorem four {α : Type} {l : List α} (h : l.length = 4) : ∃ a b c d, l = [a, b, c, d] := by
  match l, h with
  | [a, b, c, d], _ => exact ⟨a, b, c, d, rfl⟩
/-- Four cells that read as a lock. -/
theorem open_lock {fuel : Nat} {cs : List Value} {x : DataW H × List MemPlace} (h : DataW.trod enc Try.prog w base spare held fuel 29 cs = some x) : ∃ l : Lk, cs = l.enc ∧ -9223372036854775808 ≤ l.who ∧ l.who ≤ 9223372036854775807 ∧ -9223372036854775808 ≤ l.pos ∧ l.pos ≤ 9223372036854775807 ∧ -9223372036854775808 ≤ l.num ∧ l.num ≤ 9223372036854775807 := by
  obtain ⟨y0, y1, y2, y3, n, _, hlen, h0, h1, h2, h3⟩ := trod_struct4 Try.underlying29 h
  have hC : Try.prog.cellsOf 29 = 4 := by kernel_rfl
  have c2 : Try.prog.cellsOf 2 = 1 := by kernel_rfl
  have c3 : Try.prog.cellsOf 3 = 1 := by kernel_rfl
  have c4 : Try.prog.cellsOf 4 = 1 := by kernel_rfl
  rw [hC] at hlen
  obtain ⟨a, b, c, d, rfl⟩ := four hlen
  simp only [c2, c3, c4, List.drop_zero, List.drop_succ_cons, List.take_succ_cons, List.take_zero] at h0 h1 h2 h3
  obtain ⟨a0, e0, -, w0⟩ := DataW.trod_int Try.underlying3 h0
  obtain ⟨a1, e1, -, w1⟩ := DataW.trod_int Try.underlying2 h1
  obtain ⟨a2, e2, -, w2⟩ := DataW.trod_int Try.underlying2 h2
  obtain ⟨a3, e3, -⟩ := DataW.trod_bool Try.underlying4 h3
  simp only [List.cons.injEq, and_true] at e0 e1 e2 e3
  subst e0 e1 e2 e3
  simp only [Lit.wf, Bool.and_eq_true, decide_eq_true_eq] at w0 w1 w2
  exact ⟨⟨a0, a1, a2, a3⟩, rfl, w0.1, w0.2, w1.1, w1.2, w2.1, w2.2⟩
theorem open_locks {fuel : Nat} {cs : List Value} {x : DataW H × List MemPlace} (h : DataW.trod enc Try.prog w base spare held fuel 25 cs = some x) : ∃ A n c ls, cs = [.slice A n c] ∧ n ≤ maxLen ∧ LkSl w A n ls := by
  rcases open_slice Try.underlying25 h with ⟨rfl, _⟩ | ⟨a, len, cap, m, n, D, Pl, rfl, _, hl, hm, hmm, _, hi⟩
  · exact ⟨none, 0, 0, [], rfl, Nat.zero_le _, rfl, fun h => absurd h (by omega)⟩
  · have hC : Try.prog.cellsOf 29 = 4 := by kernel_rfl
    simp only [hC] at hi
    have hlm : len ≤ m := by rw [hmm]; split <;> omega
    have key : ∀ i, i < len → ∃ l : Lk, ∀ j u, l.enc[j]? = some u → w.cell? ((a.add (i * 4)).add j) = some u := by
      intro i hil
      obtain ⟨cs', hc, ht⟩ := hi i (by omega)
      obtain ⟨l, rfl, _⟩ := open_lock ht
      obtain ⟨_, _, hcell⟩ := World.cells?_some hc
      refine ⟨l, fun j u hu => ?_⟩
      have hj : j < 4 := by
        have := (List.getElem?_eq_some_iff.1 hu).1
        simpa [Lk.enc] using this
      rw [hcell j hj, hu]
    refine ⟨some a, len, cap, (List.range len).map (fun i => if h : i < len then Classical.choose (key i h) else ⟨0, 0, 0, false⟩), rfl, by omega, by simp, fun hn => ?_⟩
    obtain ⟨l0, h0⟩ := key 0 hn
    have hs := h0 0 _ rfl
    have hspot : a.spot = none := by
      have := World.cell?_spot hs
      simpa [Addr.add] using this
    obtain ⟨b, off, sp⟩ := a
    simp only at hspot
    subst hspot
    refine ⟨b, off, rfl, ?_, fun k l hk => ?_⟩
    · have := World.block_lt_of_cell? w _ hs
      simpa [add_off] using this
    · have hkl : k < len := by
        have := (List.getElem?_eq_some_iff.1 hk).1
        simpa using this
      simp [hkl] at hk
      have hc := Classical.choose_spec (key k hkl)
      rw [hk] at hc
      simp only [add_off] at hc
      exact ⟨hc 0 _ rfl, hc 1 _ rfl, hc 2 _ rfl, hc 3 _ rfl⟩
end
end Go.Proofs.Ytpjgfkdnjkfnfaa
