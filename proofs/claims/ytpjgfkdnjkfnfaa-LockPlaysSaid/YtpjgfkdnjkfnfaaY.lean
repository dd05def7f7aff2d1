/- How the laws' arguments read: a slice of steps. -/
import Derived.Test.YtpjgfkdnjkfnfaaS
namespace Go.Proofs.Ytpjgfkdnjkfnfaa
open Go.ChangeShapes Go.WideShapes Go.ChangeAt Go.RowKit Go.Joins Go.Deep

/-- A step: what to do, with which lock. -/
structure Step where
  d : Int
  l : Lk
def Step.enc (s : Step) : List Value := .int .i8 s.d :: s.l.enc
/-- The five cells of a step. -/
structure StAt (w : World) (b o : Nat) (s : Step) : Prop where
  c0 : w.cell? ⟨b, o, none⟩ = some (.int .i8 s.d)
  c1 : w.cell? ⟨b, o + 1, none⟩ = some (.int .i64 s.l.who)
  c2 : w.cell? ⟨b, o + 2, none⟩ = some (.int .i64 s.l.pos)
  c3 : w.cell? ⟨b, o + 3, none⟩ = some (.int .i64 s.l.num)
  c4 : w.cell? ⟨b, o + 4, none⟩ = some (.bool s.l.sh)
def StSl (w : World) (A : Option Addr) (n : Nat) (ls : List Step) : Prop :=
  n = ls.length ∧ (0 < n → ∃ b off, A = some ⟨b, off, none⟩ ∧ b < w.heap.size ∧ ∀ k l, ls[k]? = some l → StAt w b (off + k * 5) l)
theorem StSl.ext {w w' : World} {A n ls} (h : StSl w A n ls) (he : Ext w w') : StSl w' A n ls := by
  refine ⟨h.1, fun hn => ?_⟩
  obtain ⟨b, off, rfl, hb, hc⟩ := h.2 hn
  refine ⟨b, off, rfl, Nat.lt_of_lt_of_le hb he.size, fun k l hl => ?_⟩
  obtain ⟨h0, h1, h2, h3, h4⟩ := hc k l hl
  exact ⟨(he.cell hb).trans h0, (he.cell hb).trans h1, (he.cell hb).trans h2, (he.cell hb).trans h3, (he.cell hb).trans h4⟩

section
variable {H : Type} {enc : TypeId × Value → H} {w : World} {base : Nat} {spare : Nat → Bool} {held : Bool}
/-- Five cells that read as a step. -/
theorem open_step {fuel : Nat} {cs : List Value} {x : DataW H × List MemPlace} (h : DataW.trod enc Try.prog w base spare held fuel 31 cs = some x) : ∃ l : Step, cs = l.enc := by
  obtain ⟨y0, y1, n, _, hlen, h0, h1⟩ := trod_struct2 Try.underlying31 h
  have hC : Try.prog.cellsOf 31 = 5 := by kernel_rfl
  have c2 : Try.prog.cellsOf 27 = 1 := by kernel_rfl
  have c3 : Try.prog.cellsOf 29 = 4 := by kernel_rfl
  rw [hC] at hlen
  obtain ⟨c, cs', rfl⟩ : ∃ c cs', cs = c :: cs' := by
    match cs, hlen with
    | c :: cs', _ => exact ⟨c, cs', rfl⟩
  simp only [c2, c3, List.drop_zero, List.drop_succ_cons, List.take_succ_cons, List.take_zero] at h0 h1
  obtain ⟨a0, e0, -, w0⟩ := DataW.trod_int Try.underlying27 h0
  have hl : cs'.length = 4 := by simpa using hlen
  rw [List.take_of_length_le (by omega)] at h1
  obtain ⟨l, rfl, -⟩ := open_lock h1
  simp only [List.cons.injEq, and_true] at e0
  subst e0
  exact ⟨⟨a0, l⟩, rfl⟩
theorem open_steps {fuel : Nat} {cs : List Value} {x : DataW H × List MemPlace} (h : DataW.trod enc Try.prog w base spare held fuel 22 cs = some x) : ∃ A n c ls, cs = [.slice A n c] ∧ n ≤ maxLen ∧ StSl w A n ls := by
  rcases open_slice Try.underlying22 h with ⟨rfl, _⟩ | ⟨a, len, cap, m, n, D, Pl, rfl, _, hl, hm, hmm, _, hi⟩
  · exact ⟨none, 0, 0, [], rfl, Nat.zero_le _, rfl, fun h => absurd h (by omega)⟩
  · have hC : Try.prog.cellsOf 31 = 5 := by kernel_rfl
    simp only [hC] at hi
    have hlm : len ≤ m := by rw [hmm]; split <;> omega
    have key : ∀ i, i < len → ∃ l : Step, ∀ j u, l.enc[j]? = some u → w.cell? ((a.add (i * 5)).add j) = some u := by
      intro i hil
      obtain ⟨cs', hc, ht⟩ := hi i (by omega)
      obtain ⟨l, rfl⟩ := open_step ht
      obtain ⟨_, _, hcell⟩ := World.cells?_some hc
      refine ⟨l, fun j u hu => ?_⟩
      have hj : j < 5 := by
        have := (List.getElem?_eq_some_iff.1 hu).1
        simpa [Step.enc, Lk.enc] using this
      rw [hcell j hj, hu]
    refine ⟨some a, len, cap, (List.range len).map (fun i => if h : i < len then Classical.choose (key i h) else ⟨0, ⟨0, 0, 0, false⟩⟩), rfl, by omega, by simp, fun hn => ?_⟩
    obtain ⟨l0, h0⟩ := key 0 hn
    have hs := h0 0 _ rfl
    have hspot : a.spot = none := by
      have := World.cell?_spot hs
      simpa [Addr.add] using this
    obtain ⟨b, off, sp⟩ := a
    simp only at hspot
    subst hspot
    refine ⟨b, off, rfl, ?_, fun k l hk => ?_⟩
    · have := World.block_lt_of_cell? w _ hs
      simpa [add_off] using this
    · have hkl : k < len := by
        have := (List.getElem?_eq_some_iff.1 hk).1
        simpa using this
      simp [hkl] at hk
      have hc := Classical.choose_spec (key k hkl)
      rw [hk] at hc
      simp only [add_off] at hc
      exact ⟨hc 0 _ rfl, hc 1 _ rfl, hc 2 _ rfl, hc 3 _ rfl, hc 4 _ rfl⟩
end
end Go.Proofs.Ytpjgfkdnjkfnfaa
