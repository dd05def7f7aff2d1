/- How the laws' arguments read: a slice of wrappers. -/
import Derived.Test.YtbicaejpckcfbaaR
import Derived.Test.YtbicaejpckcfbaaK
import Derived.Deep.Slices
namespace Go.Proofs.Ytbicaejpckcfbaa
open Go.ChangeShapes Go.WideShapes Go.ChangeAt Go.RowKit Go.Joins Go.Deep

section
variable {H : Type} {enc : TypeId × Value → H} {w : World} {base : Nat} {spare : Nat → Bool} {held : Bool}
theorem four {α : Type} {l : List α} (h : l.length = 4) : ∃ a b c d, l = [a, b, c, d] := by
  match l, h with
  | [a, b, c, d], _ => exact ⟨a, b, c, d, rfl⟩
theorem open_wrap {fuel : Nat} {cs : List Value} {x : DataW H × List MemPlace} (h : DataW.trod enc Try.prog w base spare held fuel 25 cs = some x) : ∃ l : Wr, cs = l.enc ∧ l.ok := by
  obtain ⟨y0, y1, y2, y3, n, _, hlen, h0, h1, h2, h3⟩ := trod_struct4 Try.underlying25 h
  have hC : Try.prog.cellsOf 25 = 4 := by kernel_rfl
  have c2 : Try.prog.cellsOf 22 = 1 := by kernel_rfl
  have c3 : Try.prog.cellsOf 2 = 1 := by kernel_rfl
  have c4 : Try.prog.cellsOf 23 = 1 := by kernel_rfl
  rw [hC] at hlen
  obtain ⟨a, b, c, d, rfl⟩ := four hlen
  simp only [c2, c3, c4, List.drop_zero, List.drop_succ_cons, List.take_succ_cons, List.take_zero] at h0 h1 h2 h3
  obtain ⟨a0, e0, -, w0⟩ := DataW.trod_int Try.underlying22 h0
  obtain ⟨a1, e1, -, -⟩ := DataW.trod_int Try.underlying2 h1
  obtain ⟨a2, e2, -, -⟩ := DataW.trod_int Try.underlying2 h2
  obtain ⟨a3, e3, -, -⟩ := DataW.trod_int Try.underlying23 h3
  simp only [List.cons.injEq, and_true] at e0 e1 e2 e3
  subst e0 e1 e2 e3
  simp only [Lit.wf, Bool.and_eq_true, decide_eq_true_eq] at w0
  exact ⟨⟨a0, a1, a2, a3⟩, rfl, w0.1, w0.2⟩
theorem open_wraps {fuel : Nat} {cs : List Value} {x : DataW H × List MemPlace} (h : DataW.trod enc Try.prog w base spare held fuel 35 cs = some x) :
    ∃ A n c ls, cs = [.slice A n c] ∧ WrSl w A n ls ∧ (∀ y ∈ ls, y.ok) ∧ (n = 0 ∨ ∃ elems sp, x.1 = .slice elems sp ∧ n ≤ elems.length) := by
  rcases open_slice Try.underlying35 h with ⟨rfl, _⟩ | ⟨a, len, cap, m, n, D, Pl, rfl, _, hl, hm, hmm, rfl, hi⟩
  · exact ⟨none, 0, 0, [], rfl, ⟨rfl, fun h => absurd h (by omega)⟩, fun y hy => by simp at hy, .inl rfl⟩
  · have hC : Try.prog.cellsOf 25 = 4 := by kernel_rfl
    simp only [hC] at hi
    have hlm : len ≤ m := by rw [hmm]; split <;> omega
    have key : ∀ i, i < len → ∃ l : Wr, l.ok ∧ ∀ j u, l.enc[j]? = some u → w.cell? ((a.add (i * 4)).add j) = some u := by
      intro i hil
      obtain ⟨cs', hc, ht⟩ := hi i (by omega)
      obtain ⟨l, rfl, hok⟩ := open_wrap ht
      obtain ⟨_, _, hcell⟩ := World.cells?_some hc
      refine ⟨l, hok, fun j u hu => ?_⟩
      have hj : j < 4 := by
        have := (List.getElem?_eq_some_iff.1 hu).1
        simpa [Wr.enc] using this
      rw [hcell j hj, hu]
    refine ⟨some a, len, cap, (List.range len).map (fun i => if h : i < len then Classical.choose (key i h) else ⟨0, 0, 0, 0⟩), rfl, ⟨by simp, fun hn => ?_⟩, fun y hy => ?_, .inr ⟨_, _, rfl, by simp⟩⟩
    · obtain ⟨l0, -, h0⟩ := key 0 hn
      have hs := h0 0 _ rfl
      have hspot : a.spot = none := by
        have := World.cell?_spot hs
        simpa [Addr.add] using this
      obtain ⟨b, off, sp⟩ := a
      simp only at hspot
      subst hspot
      refine ⟨b, off, rfl, ?_, fun k l hk => ?_⟩
      · have := World.block_lt_of_cell? w _ hs
        simpa [add_off] using this
      · have hkl : k < len := by
          have := (List.getElem?_eq_some_iff.1 hk).1
          simpa using this
        simp [hkl] at hk
        have hc := (Classical.choose_spec (key k hkl)).2
        rw [hk] at hc
        simp only [add_off] at hc
        exact ⟨hc 0 _ rfl, hc 1 _ rfl, hc 2 _ rfl, hc 3 _ rfl⟩
    · obtain ⟨k, hk, rfl⟩ := List.mem_map.1 hy
      have hkl := List.mem_range.1 hk
      simp only [hkl, dite_true]
      exact (Classical.choose_spec (key k hkl)).1
end
end Go.Proofs.Ytbicaejpckcfbaa
