/- For every lock, a table that is none answers as the document says: the statement LockNil, without a condition. -/
import Derived.Test.YtpjgfkdnjkfnfaaO
import Derived.Test.YtpjgfkdnjkfnfaaRows
import Derived.ProofKit
import Derived.OpenShut
import Derived.ShutString
import Derived.ChangeOld
import Derived.Below
import Derived.Lib.SmallJoins
namespace Go.Proofs.Ytpjgfkdnjkfnfaa
open Go.ChangeShapes Go.WideShapes Go.ChangeAt Go.RowKit Go.Joins

theorem own : ownKnob Try.prog.godebug = none := by kernel_rfl
theorem laidOut : laidOutB Try.prog = true := by kernel_rfl

set_option maxRecDepth 20000 in
set_option maxHeartbeats 1000000 in
theorem lockNil_walk (wa pa na : Int) (sa : Bool) (w : World) :
    Calls Try.prog 6 #[.agg #[.int .i64 wa, .int .i64 pa, .int .i64 na, .bool sa]] w fun e w' => e = .returned (.bool true) ∧ Ext w w' := by
  have e0 : Ext w (w.alloc (.cells #[.int .i64 wa, .int .i64 pa, .int .i64 na, .bool sa] 29)) := (Ext.refl _).alloc _
  have q0 : ∀ wx, Ext (w.alloc (.cells #[.int .i64 wa, .int .i64 pa, .int .i64 na, .bool sa] 29)) wx → wx.cell? ⟨w.heap.size, 0, none⟩ = some (.int .i64 wa) := fun wx h => h.cell_new 0
  have q1 : ∀ wx, Ext (w.alloc (.cells #[.int .i64 wa, .int .i64 pa, .int .i64 na, .bool sa] 29)) wx → wx.cell? ⟨w.heap.size, 1, none⟩ = some (.int .i64 pa) := fun wx h => h.cell_new 1
  have q2 : ∀ wx, Ext (w.alloc (.cells #[.int .i64 wa, .int .i64 pa, .int .i64 na, .bool sa] 29)) wx → wx.cell? ⟨w.heap.size, 2, none⟩ = some (.int .i64 na) := fun wx h => h.cell_new 2
  have q3 : ∀ wx, Ext (w.alloc (.cells #[.int .i64 wa, .int .i64 pa, .int .i64 na, .bool sa] 29)) wx → wx.cell? ⟨w.heap.size, 3, none⟩ = some (.bool sa) := fun wx h => h.cell_new 3
  have qs : ∀ wx, Ext (w.alloc (.cells #[.int .i64 wa, .int .i64 pa, .int .i64 na, .bool sa] 29)) wx → w.heap.size < wx.heap.size := fun wx h => h.lt_new
  go_enter Try.func6, Try.ntmps6
  go_wp2_with (first
    | (go_at_call 16; refine (wait_nil _ _ _ _ _).mono ?_; rintro e w1 ⟨rfl, hb1⟩)
    | (go_at_call 18; refine (free_nil _ _ _ _ _).mono ?_; rintro e w2 ⟨rfl, hb2⟩; have hb2 := hb1.trans hb2)
    | (go_at_call 17; refine (try_nil _ _ _ _ _).mono ?_; rintro e w3 ⟨rfl, hb3⟩; have hb3 := hb2.trans hb3)
    | (go_at_call 24; refine (leave_nil _ _).mono ?_; rintro e w4 ⟨rfl, hb4⟩; have hb4 := hb3.trans hb4)
    | (go_at_call 11; refine (held_nil _).mono ?_; rintro e w5 ⟨rfl, hb5⟩; have hb5 := hb4.trans hb5)
    | (go_at_call 12; refine (waits_nil _).mono ?_; rintro e w6 ⟨rfl, hb6⟩; have hb6 := hb5.trans hb6)
    | (go_at_call 15; refine (wakes_any _).mono ?_; rintro e w7 ⟨rfl, hb7⟩; have hb7 := hb6.trans hb7))
  go_ret
  exact ⟨rfl, e0.trans hb7⟩

set_option maxRecDepth 100000 in
theorem lockNil_lifted (os : Os) (started : os.Started) (H : Type) (enc : TypeId × Value → H) :
    ReturnsInHanded {} Try.checked os 6 .any (Rows.lockNilSpec.pre6 enc Try.prog Try.f6 Rows.lockNilRow.domain false) (Rows.lockNilSpec.post enc Try.prog Try.f6 false true false false) := by
  refine returnsInHanded_of_change (C := Try.checked) own started (by kernel_rfl) Try.func6
    (ChangeSpec.witness6 (enc := enc) (C := Try.checked) false ⟨#[], #[.agg #[.int .i64 0, .int .i64 0, .int .i64 0, .bool false]], []⟩ 8 (by kernel_rfl) (by kernel_rfl) (by kernel_rfl) (by kernel_rfl)) ?_
  intro W base args ds gs before hval0 hW hcnd _
  have hval : ∀ (j : Nat) t v, Try.f6.params[j]? = some t → args[j]? = some v → Value.okWide Try.prog W .any base t v := hval0
  have hW' := hW
  obtain ⟨p, q, hA0, hV, rfl, hfz, hnd⟩ := hW
  have hA : DataW.TrodAll enc Try.prog W 0 (fun _ => true) true Try.f6.params.toList args.toList ds p := hA0
  rw [Try.params6] at hA hval
  obtain ⟨v0, vs0, d0, ds0, p0, q0, hargs, rfl, rfl, h0, r0⟩ := trodAll_cons hA
  obtain ⟨rfl, rfl, rfl⟩ := trodAll_nil r0
  obtain rfl : args = #[v0] := by cases args; simp_all
  obtain ⟨rfl, rfl⟩ := trodVars_none hV
  have k0 := h0
  have lt0 : ∀ x ∈ p0, x.block < W.heap.size := by obtain ⟨m, hm⟩ := k0; exact DataW.trod_lt m _ _ _ hm
  obtain ⟨c0, c1, c2, c3, y0, y1, y2, y3, m, rfl, hd, hp, hy0, hy1, hy2, hy3⟩ := open_agg4 Try.underlying29 (by kernel_rfl) (by kernel_rfl) (hval 0 29 v0 rfl rfl) h0
  obtain ⟨a0, e0, -, -⟩ := DataW.trod_int Try.underlying3 hy0
  obtain ⟨a1, e1, -, -⟩ := DataW.trod_int Try.underlying2 hy1
  obtain ⟨a2, e2, -, -⟩ := DataW.trod_int Try.underlying2 hy2
  obtain ⟨a3, e3, -⟩ := DataW.trod_bool Try.underlying4 hy3
  simp only [List.cons.injEq, and_true] at e0 e1 e2 e3
  subst e0 e1 e2 e3
  clear hA0 hval0
  refine (lockNil_walk a0 a1 a2 a3 W).mono fun e W' ⟨he, hx⟩ => ?_
  have bel := hx.below
  subst he
  exact ⟨_, rfl, _, _, _, [], _, [], hW', trodAll_mk1 (shut_bool Try.underlying4 _), (trodAll_cons_mk (Below.trod laidOut (by kernel_rfl) (of_decide_eq_true (by kernel_rfl)) k0 bel lt0) trodAll_mk0), rfl, bel.frame _, fun h => by cases h⟩

/-- The statement. -/
theorem lockNil_holds : Rows.LockNilSaid :=
  OpenClaim.holds_of_wide 6 Try.f6 rfl rfl rfl rfl rfl rfl rfl ⟨rfl, rfl, rfl, rfl, rfl⟩ rfl rfl rfl rfl rfl (by kernel_rfl) Try.func6 (by kernel_rfl)
    (of_decide_eq_true (by kernel_rfl)) (by unfold Func.isWrapper; rw [if_neg (of_decide_eq_false (by kernel_rfl))]; exact ⟨rfl, rfl⟩)
    (fun os started H enc _ => lockNil_lifted os started H enc)
#print axioms lockNil_holds
end Go.Proofs.Ytpjgfkdnjkfnfaa
