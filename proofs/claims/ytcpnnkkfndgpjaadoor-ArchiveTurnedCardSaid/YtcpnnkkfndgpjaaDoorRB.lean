/- The next thing that is whole: step, where the reader is done; where she has begun; where she has not. -/
import Derived.Test.YtcpnnkkfndgpjaaDoorRA
import Derived.ScopeJumps
import Derived.WalkMore
namespace Go.Proofs.YtcpnnkkfndgpjaaDoor
open Go.RowKit

/-- A scope with one jump ahead. -/
theorem wp_scope_ahead {P : Program} {a : Act} {w : World} {Q : Exit → Act → World → Prop} {c rest : Code} (l : Nat) (hf : findLabel c l = some rest)
    (first : c.wp P (Exit.jump l (fun a' w' => rest.wp P (Exit.noGoto Q) a' w') Q) a w) : (Code.scope c).wp P Q a w :=
  wp_scope_jumps l _ (fun _ _ => 0) hf first (fun a' w' h => wp_mono h (fun e a w hq => by cases e <;> first | exact hq | exact hq.elim))
/-- What goes by without an item. -/
inductive Quiet (Z : Sp) : Rd → Rd → Prop
  | refl (x : Rd) : Quiet Z x x
  | step {x y z : Rd} (h : stp Z x = .go none y) (k : Quiet Z y z) : Quiet Z x z
theorem Quiet.runs {Z : Sp} {x y : Rd} {l : List It} {q : Option Rd} (h : Quiet Z x y) (k : Runs Z y l q) : Runs Z x l q := by
  induction h with
  | refl => exact k
  | step h _ ih => exact .step (o := none) h (ih k)
def StepPost (Z : Sp) (x : Rd) (r : Nat) (A : Option Addr) (n c : Nat) (w : World) (e : Ending) (w' : World) : Prop :=
  Mod (fun k => k = r) w w' ∧ ∃ y, Quiet Z x y ∧
    ((e = tornV ∧ stp Z y = .tear ∧ ∃ A' n' c' z, RdAt w' r A' n' c' z false) ∨
     (stp Z y = .stop ∧ (∃ p k, e = .returned (.tuple #[.agg #[.string p, .int .i8 k, .slice none 0 0], .bool false])) ∧ ∃ A' n' c', RdAt w' r A' n' c' y false ∧ (Value.slice A' n' c').ownBlock = (Value.slice A n c).ownBlock) ∨
     (∃ it z, stp Z y = .go (some it) z ∧ ∃ D dc A' n' c', e = .returned (.tuple #[.agg #[.string ⟨it.path.toArray⟩, .int .i8 it.kind, .slice D it.data.length dc], .bool true]) ∧ RdAt w' r A' n' c' z false ∧
      (Value.slice A' n' c').ownBlock = (Value.slice A n c).ownBlock ∧ Own w' 5 1 (.slice D it.data.length dc) it.data.length (u8v it.data) ∧ (∀ k, (Value.slice D it.data.length dc).ownBlock = some k → w.heap.size ≤ k)))
section
variable {Z : Sp} {x y : Rd} {r : Nat} {A : Option Addr} {n c : Nat} {w w' w0 : World} {e : Ending}
theorem StepPost.tear (hr : RdAt w' r A n c x false) (hm : Mod (fun k => k = r) w w') (h : stp Z x = .tear) : StepPost Z x r A n c w tornV w' := ⟨hm, x, .refl _, .inl ⟨rfl, h, _, _, _, _, hr⟩⟩
theorem StepPost.stop {p : ByteArray} {k : Int} (hr : RdAt w' r A n c x false) (hm : Mod (fun k => k = r) w w') (h : stp Z x = .stop) : StepPost Z x r A n c w (.returned (.tuple #[.agg #[.string p, .int .i8 k, .slice none 0 0], .bool false])) w' := ⟨hm, x, .refl _, .inr (.inl ⟨h, ⟨p, k, rfl⟩, _, _, _, hr, rfl⟩)⟩
/-- A silent step ahead. -/
theorem StepPost.behind {A1 : Option Addr} {n1 c1 : Nat} (hs : stp Z x = .go none y) (hm : Mod (fun k => k = r) w w0) (ho : (Value.slice A1 n1 c1).ownBlock = (Value.slice A n c).ownBlock) (h : StepPost Z y r A1 n1 c1 w0 e w') : StepPost Z x r A n c w e w' := by
  obtain ⟨h1, z, h2, h3⟩ := h
  refine ⟨hm.trans h1 (fun _ _ e => e), z, .step hs h2, ?_⟩
  rcases h3 with h3 | ⟨h3, h4, A', n', c', h5, h6⟩ | ⟨it, z', h3, D, dc, A', n', c', h4, h5, h6, h7, h8⟩
  · exact .inl h3
  · exact .inr (.inl ⟨h3, h4, A', n', c', h5, h6.trans ho⟩)
  · exact .inr (.inr ⟨it, z', h3, D, dc, A', n', c', h4, h5, h6.trans ho, h7, fun k hk => Nat.le_trans hm.size (h8 k hk)⟩)
end
theorem ItAt.againM {w0 w : World} {r i : Nat} {p d p' d' : Value} {k k' : Int} (h : ItAt w i p k d) (hx : Mod (fun k => k = r) w0 w) (hi : w0.heap.size ≤ i) :
    ItAt (((w.setCell ⟨i, 0, none⟩ p').setCell ⟨i, 1, none⟩ (.int .i8 k')).setCell ⟨i, 2, none⟩ d') i p' k' d' ∧ Mod (fun k => k = r) w0 (((w.setCell ⟨i, 0, none⟩ p').setCell ⟨i, 1, none⟩ (.int .i8 k')).setCell ⟨i, 2, none⟩ d') :=
  ⟨heap_setCell_at (heap_setCell_at (heap_setCell_at h _) _) _, ((hx.setCell _ _ (fun h => absurd h (by simp; omega))).setCell _ _ (fun h => absurd h (by simp; omega))).setCell _ _ (fun h => absurd h (by simp; omega))⟩
theorem Mod.ext_r {r : Nat} {w w' : World} (h : Ext w w') : Mod (fun k => k = r) w w' := Mod.mono h (fun _ _ f => f.elim)
set_option maxRecDepth 20000 in
set_option maxHeartbeats 2000000 in
theorem step_done (Z : Sp) (r : Nat) (A : Option Addr) (n c : Nat) (x : Rd) (w : World) (hr : RdAt w r A n c x false) (hb : x.begun = true) (hd : x.done = true) :
    Calls Tryd.prog 38 #[.pointer (some ⟨r, 0, none⟩)] w (StepPost Z x r A n c w) := by
  have HR := Lib.hid hr
  obtain ⟨d0, d1, d2, d3, d4, d5, d6, f0⟩ := hr.cells
  rw [hb] at d2
  rw [hd] at d6
  have hlen := hr.len
  have hrw : r < w.heap.size := hr.lt
  have Hb := Lib.hid hb
  have Hd := Lib.hid hd
  have HX1 : Hid (Ext w (w.alloc (.cells #[.string ⟨#[]⟩, .int .i8 0, .slice none 0 0] 50))) := (Ext.refl _).alloc _
  have HI1 : Hid (ItAt (w.alloc (.cells #[.string ⟨#[]⟩, .int .i8 0, .slice none 0 0] 50)) w.heap.size (.string ⟨#[]⟩) 0 (.slice none 0 0)) := Lib.hid (heap_alloc_new w _)
  by_cases hn : n = 0
  · have hs : Hid (stp Z x = .stop) := Lib.hid (done_stop Z hb hd (List.eq_nil_of_length_eq_zero (by omega)))
    subst hn
    clear hr hb hd hlen f0
    go_enter Tryd.func38, Tryd.ntmps38
    go_wp2_with fail
    go_step3
    go_wp2_with fail
    refine (must_yes _).mono ?_
    rintro e w2 ⟨rfl, rfl⟩
    go_wp2_with fail
    rw [Exit.noGoto_ret]
    obtain ⟨q0, q1, q2, -⟩ := HI1.out.cells
    exact bodyPost_ret (v := .tuple #[.agg #[.string ⟨#[]⟩, .int .i8 0, .slice none 0 0], .bool false]) (by simp [results, Tryd.results38, go_sem, q0, q1, q2]) rfl (StepPost.stop (HR.out.ext HX1.out) (Mod.ext_r HX1.out) hs.out)
  · have hs : Hid (stp Z x = .tear) := Lib.hid (by
      unfold stp
      rw [if_neg (by simp [hb]), if_pos hd, if_neg (fun h => hn (by rw [hlen, h]; rfl))])
    have hn' : ((n : Int) == 0) = false := beq_eq_false_iff_ne.2 (by omega)
    clear hr hb hd hlen f0
    go_enter Tryd.func38, Tryd.ntmps38
    go_wp2_with fail
    go_step3
    go_wp2_with fail
    refine (must_no _).mono ?_
    rintro e w2 ⟨rfl, rfl⟩
    exact ⟨rfl, StepPost.tear (HR.out.ext HX1.out) (Mod.ext_r HX1.out) hs.out⟩
end Go.Proofs.YtcpnnkkfndgpjaaDoor
