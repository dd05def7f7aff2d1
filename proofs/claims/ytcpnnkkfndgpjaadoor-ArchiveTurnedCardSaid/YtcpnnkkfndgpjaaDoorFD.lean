/- Feed of a reader that is torn, of none; all bytes read in pieces. -/
import Derived.Test.YtcpnnkkfndgpjaaDoorFC
namespace Go.Proofs.YtcpnnkkfndgpjaaDoor
open Go.RowKit

set_option maxRecDepth 20000 in
theorem feed_torn (r : Nat) (A B : Option Addr) (n c m d : Nat) (x : Rd) (w : World) (hr : RdAt w r A n c x true) :
    Calls Tryd.prog 18 #[.pointer (some ⟨r, 0, none⟩), .slice B m d] w fun e w' => e = .returned (.tuple #[.slice none 0 0, .int .i64 260]) ∧ Ext w w' := by
  obtain ⟨d0, d1, d2, d3, d4, d5, d6, f0⟩ := hr.cells
  have hrw := hr.lt
  clear hr f0
  go_enter_defers Tryd.func18, Tryd.ntmps18
  go_wp2_with fail
  refine ⟨.tuple #[.slice none 0 0, .int .i64 260], by simp [results, Tryd.results18, go_sem], rfl, ?_⟩
  exact ((Ext.refl _).alloc _).alloc _
set_option maxRecDepth 20000 in
theorem feed_nil (B : Option Addr) (m d : Nat) (w : World) :
    Calls Tryd.prog 18 #[.pointer none, .slice B m d] w fun e w' => e = .returned (.tuple #[.slice none 0 0, .int .i64 1]) ∧ Ext w w' := by
  go_enter_defers Tryd.func18, Tryd.ntmps18
  go_wp2_with fail
  refine ⟨.tuple #[.slice none 0 0, .int .i64 1], by simp [results, Tryd.results18, go_sem], rfl, ?_⟩
  exact ((Ext.refl _).alloc _).alloc _
theorem Ext.fresh {T : Nat → Prop} {w w4 w5 : World} (h : Ext w w4) (hm : Mod T w4 w5) (hT : ∀ i, T i → w.heap.size ≤ i) : Ext w w5 := Mod.trans h hm (fun i hi ht => absurd hi (by have := hT i ht; omega))
theorem FeedPost.good {Z : Sp} {x q : Rd} {r n c : Nat} {A : Option Addr} {w w' : World} {e : Ending} {l : List It} (h : FeedPost Z x r A n c w e w') (hr : Runs Z x l (some q)) :
    ∃ (vs : List IV) (LA : Option Addr) (lc : Nat) (A' : Option Addr) (n' c' : Nat), vs.map (·.x) = l ∧ e = .returned (.tuple #[.slice LA vs.length lc, .int .i64 0]) ∧ ItMine w w' (.slice LA vs.length lc) vs ∧ Mod (fun k => k = r ∨ (Value.slice A n c).ownBlock = some k) w w' ∧
      RdAt w' r A' n' c' q false ∧ q.Fine ∧ n' ≤ x.b.length ∧ (∀ k, (Value.slice A' n' c').ownBlock = some k → (Value.slice A n c).ownBlock = some k ∨ w.heap.size ≤ k) ∧ (∀ i ∈ vs, ∀ k, i.dat.ownBlock = some k → (Value.slice A' n' c').ownBlock ≠ some k) := by
  obtain ⟨vs, q', v, h1, h2, h3, h4⟩ := h
  obtain ⟨e1, e2⟩ := Runs.det Z h1 hr
  obtain ⟨LA, lc, rfl, -⟩ := h2.row.form
  rcases h4 with ⟨y, A', n', c', rfl, rfl, h5, h6, h7, h8, h9⟩ | ⟨y, rfl, -⟩
  · injection e2 with e2
    subst e2
    exact ⟨vs, LA, lc, A', n', c', e1, rfl, h2, h3, h5, h6, h7, h8, h9⟩
  · cases e2
theorem FeedPost.bad {Z : Sp} {x : Rd} {r n c : Nat} {A : Option Addr} {w w' : World} {e : Ending} {l : List It} (h : FeedPost Z x r A n c w e w') (hr : Runs Z x l none) :
    ∃ (vs : List IV) (LA : Option Addr) (lc : Nat) (y : Rd), vs.map (·.x) = l ∧ e = .returned (.tuple #[.slice LA vs.length lc, .int .i64 260]) ∧ ItMine w w' (.slice LA vs.length lc) vs ∧ Mod (fun k => k = r ∨ (Value.slice A n c).ownBlock = some k) w w' ∧ RdAt w' r none 0 0 y true ∧ y.done = false := by
  obtain ⟨vs, q', v, h1, h2, h3, h4⟩ := h
  obtain ⟨e1, e2⟩ := Runs.det Z h1 hr
  obtain ⟨LA, lc, rfl, -⟩ := h2.row.form
  rcases h4 with ⟨y, A', n', c', rfl, -⟩ | ⟨y, rfl, rfl, h5, h6⟩
  · cases e2
  · exact ⟨vs, LA, lc, y, e1, rfl, h2, h3, h5, h6⟩
end Go.Proofs.YtcpnnkkfndgpjaaDoor
