/- A map from ints to ints that a call made; who waits for whom, as a relation. -/
import Derived.Test.YtpjgfkdnjkfnfaaC
import Derived.Maps.Own
import Derived.Maps.OwnOps
import Derived.Maps.Views
namespace Go.Proofs.Ytpjgfkdnjkfnfaa
open Go.RowKit Go.Maps

/-- Block b is a map of at most n entries that answers m. -/
def IMap (w : World) (b n : Nat) (m : Int → Int) : Prop :=
  ∃ D : DataW Unit, w.ownsMap Try.prog 3 (plainElem Try.prog 3) b n D ∧ IsMap D ∧ ∀ k : Int, D.atKey (.int .i64 k) (.lit (.int .i64 0)) = .lit (.int .i64 (m k))
theorem intKeyed : Keyed Try.prog 3 := int_keyed Try.underlying3
theorem zero3 (w : World) : (zeroValue 3).run Try.prog w = .ok (.int .i64 0) w := by kernel_rfl
theorem IMap.made (w : World) : IMap (w.alloc (.map #[] 0)) w.heap.size 0 (fun _ => 0) :=
  ⟨.map [], World.ownsMap_made w _ _ _, isMap_empty, fun k => by simp [DataW.atKey]⟩
theorem IMap.mod {S w w' b n m} (h : IMap w b n m) (hm : Mod S w w') (hs : ¬ S b) : IMap w' b n m := by
  obtain ⟨D, ho, hi, ha⟩ := h
  refine ⟨D, ?_, hi, ha⟩
  have hlt := ho.lt
  obtain ⟨es, clock, hb, r⟩ := ho
  exact ⟨es, clock, (hm.block b hlt hs).trans hb, r⟩
theorem IMap.lt {w b n m} (h : IMap w b n m) : b < w.heap.size := by obtain ⟨D, ho, _⟩ := h; exact ho.lt
theorem IMap.look {w b n m} (h : IMap w b n m) (k : Int) (hk : (Lit.int .i64 k).wf = true) :
    (Instr.lookup 60 (.map (some b)) (.int .i64 k) false).run Try.prog w = .ok (.int .i64 (m k)) w := by
  obtain ⟨D, ho, hi, ha⟩ := h
  obtain ⟨c, hrun, hat, _⟩ := ho.lookup_int intKeyed Try.underlying60 Try.underlying3 (zero3 w) (keyOf_int_mk Try.underlying3 hk)
  rw [ha k] at hat
  injection hat with hat
  injection hat with _ hat
  rw [hrun, hat]
theorem i64_key (k : Int) : WideAt.IsKeyLit (.int .i64 k) := by first | trivial | exact rfl | simp [WideAt.IsKeyLit]
theorem IMap.put {w b n m} (h : IMap w b n m) (hn : n < maxLen) (k v : Int) (hk : (Lit.int .i64 k).wf = true) (hv : (Lit.int .i64 v).wf = true) :
    ∃ w', (Instr.mapUpdate 60 (.map (some b)) (.int .i64 k) (.int .i64 v)).run Try.prog w = .ok () w' ∧ IMap w' b (n + 1) (fun j => if j = k then v else m j) ∧ Mod (fun i => i = b) w w' := by
  obtain ⟨D, ho, hi, ha⟩ := h
  obtain ⟨w', hrun, ho', hg⟩ := ho.update intKeyed Try.underlying60 hn (keyOf_int_mk Try.underlying3 hk) (plainElem_int Try.underlying3 hv)
  refine ⟨w', hrun, ⟨_, ho', hi.put _ _, fun j => ?_⟩, (Mod.refl _ _).grown hg (fun i e _ => by injection e with e; exact e.symm)⟩
  by_cases hj : j = k
  · subst hj
    rw [atKey_put_same hi (i64_key _)]
    simp
  · rw [atKey_put_other (by intro e; injection e with _ e; exact hj e), ha j]
    simp [hj]

/-- An edge: one of the waiting locks of a meets one of b that is held, or that waits ahead of it. -/
def Edge (H w : List Lk) (a b : Int) : Prop := ∃ i x y, w[i]? = some x ∧ x.who = a ∧ (y ∈ H ∨ y ∈ w.take i) ∧ meetB x y = true ∧ y.who = b
/-- A way of one edge at least. -/
inductive Way (H w : List Lk) : Int → Int → Prop
  | one {a b} : Edge H w a b → Way H w a b
  | cons {a b c} : Edge H w a b → Way H w b c → Way H w a c
theorem Way.trans {H w a b c} (h : Way H w a b) (k : Way H w b c) : Way H w a c := by
  induction h with
  | one e => exact .cons e k
  | cons e _ ih => exact .cons e (ih k)
theorem Way.snoc {H w a b c} (h : Way H w a b) (k : Edge H w b c) : Way H w a c := h.trans (.one k)

/-- What 'look' leaves: m ahead, m' behind. -/
structure Looked (H w : List Lk) (who a : Int) (r : Bool) (m m' : Int → Int) : Prop where
  grows : ∀ k, m k ≤ m' k
  here : 1 ≤ m' a
  yes : r = true → Way H w a who
  no : r = false → ∀ b, 1 ≤ m' b → ¬ 1 ≤ m b → ∀ c, Edge H w b c → c ≠ who ∧ 1 ≤ m' c

/-- The top: nobody had been looked at. -/
theorem Looked.top {H w who r m'} (h : Looked H w who who r (fun _ => 0) m') : r = true ↔ Way H w who who := by
  constructor
  · exact h.yes
  · intro hw
    cases hr : r with
    | true => rfl
    | false =>
      exfalso
      have hno := h.no hr
      have key : ∀ a c, Way H w a c → 1 ≤ m' a → c ≠ who := by
        intro a c hw
        induction hw with
        | one e => intro h1; exact (hno _ h1 (by simp) _ e).1
        | cons e _ ih => intro h1; exact ih (hno _ h1 (by simp) _ e).2
      exact key who who hw h.here rfl
end Go.Proofs.Ytpjgfkdnjkfnfaa
