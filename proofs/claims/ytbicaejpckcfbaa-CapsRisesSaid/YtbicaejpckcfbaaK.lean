/- For any wrapper over any sets the program's Over answers as the document says, and leaves the sets alone: the statement CapsOver, without a condition. -/
import Derived.Test.YtbicaejpckcfbaaI
import Derived.Test.YtbicaejpckcfbaaRows
import Derived.ProofKit
import Derived.OpenShut
import Derived.ShutString
import Derived.ChangeOld
import Derived.Below
import Derived.SizedLaws
import Derived.ChangeSlices
import Derived.Lib.SmallJoins
namespace Go.Proofs.Ytbicaejpckcfbaa
open Go.ChangeShapes Go.WideShapes Go.ChangeAt Go.RowKit Go.Joins

theorem own_ : ownKnob Try.prog.godebug = none := by kernel_rfl
theorem laidOut_ : laidOutB Try.prog = true := by kernel_rfl

/-- A slice of bytes, as it reads: small numbers; its length is bounded by what its reading weighs. -/
theorem open_sets {H : Type} {enc : TypeId × Value → H} {w : World} {base : Nat} {spare : Nat → Bool} {held : Bool} {fuel : Nat} {cs : List Value} {x : DataW H × List MemPlace} (h : DataW.trod enc Try.prog w base spare held fuel 26 cs = some x) :
    ∃ A n c ls, cs = [.slice A n c] ∧ SetSl w A n ls ∧ (∀ y ∈ ls, y < 256) ∧ (n = 0 ∨ ∃ elems sp, x.1 = .slice elems sp ∧ n ≤ elems.length) := by
  rcases Go.ChangeShapes.open_ints Try.underlying26 Try.underlying5 (by kernel_rfl) h with ⟨rfl, rfl⟩ | ⟨a, len, cap, zs, rfl, hb, hl, hm, hz, rfl, hc, hwf⟩
  · exact ⟨none, 0, 0, [], rfl, ⟨rfl, fun h => absurd h (by omega)⟩, fun y hy => by simp at hy, .inl rfl⟩
  · have hle : len ≤ zs.length := by rw [hz]; split <;> omega
    have hwf' : ∀ z ∈ zs, 0 ≤ z ∧ z < 256 := fun z hz => by
      have := hwf z hz
      simp only [Lit.wf, Bool.and_eq_true, decide_eq_true_eq] at this
      have h1 : (0 : Int) ≤ z := this.1
      have h2 : z ≤ 255 := this.2
      omega
    refine ⟨some a, len, cap, (zs.take len).map Int.toNat, rfl, ⟨by simp; omega, fun hn => ?_⟩, fun y hy => ?_, .inr ⟨_, _, rfl, by simp [lits]; omega⟩⟩
    · have h0 := hc 0 (by omega)
      have hspot : a.spot = none := by
        have := World.cell?_spot h0
        simpa [Addr.add] using this
      obtain ⟨b, off, sp⟩ := a
      simp only at hspot
      subst hspot
      refine ⟨b, off, rfl, ?_, fun k y hk => ?_⟩
      · have := World.block_lt_of_cell? w _ h0
        simpa [add_off] using this
      · have hkl : k < len := by
          have := (List.getElem?_eq_some_iff.1 hk).1
          simp at this; omega
        have hck := hc k (by omega)
        rw [add_off] at hck
        rw [hck]
        have hkz : k < zs.length := by omega
        have e : zs.getD k 0 = zs[k] := by simp [List.getD, hkz]
        rw [e]
        have hy : y = (zs[k]).toNat := by
          rw [List.getElem?_map, List.getElem?_take_of_lt hkl, List.getElem?_eq_getElem hkz] at hk
          simpa using hk.symm
        rw [hy]
        have := (hwf' _ (List.getElem_mem hkz)).1
        congr 2
        omega
    · obtain ⟨z, hz, rfl⟩ := List.mem_map.1 hy
      have := hwf' z (List.mem_of_mem_take hz)
      omega

set_option maxRecDepth 100000 in
theorem capsOver_lifted (os : Os) (started : os.Started) (H : Type) (enc : TypeId × Value → H) :
    ReturnsInHanded {} Try.checked os 3 .any (Rows.capsOverSpec.pre6 enc Try.prog Try.f3 Rows.capsOverRow.domain false) (Rows.capsOverSpec.post enc Try.prog Try.f3 false true false false) := by
  refine returnsInHanded_of_change_sized (C := Try.checked) own_ started (by kernel_rfl) Try.func3
    (ChangeSpec.witness6 (enc := enc) (C := Try.checked) false ⟨#[], #[.agg #[.int .i8 0, .int .i64 0, .int .i64 0, .int .u64 0], .slice none 0 0], []⟩ 8 (by kernel_rfl) (by kernel_rfl) (by kernel_rfl) (by kernel_rfl)) ?_
  intro W base args ds gs before hval0 hW hcnd hsz _
  have hval : ∀ (j : Nat) t v, Try.f3.params[j]? = some t → args[j]? = some v → Value.okWide Try.prog W .any base t v := hval0
  have hW' := hW
  obtain ⟨p, q, hA0, hV, rfl, hfz, hnd⟩ := hW
  have hA : DataW.TrodAll enc Try.prog W 0 (fun _ => true) true Try.f3.params.toList args.toList ds p := hA0
  rw [Try.params3] at hA hval hsz
  obtain ⟨v0, vs0, d0, ds0, p0, q0, hargs, rfl, rfl, h0, r0⟩ := trodAll_cons hA
  obtain ⟨v1, vs1, d1, ds1, p1, q1, rfl, rfl, rfl, h1, r1⟩ := trodAll_cons r0
  obtain ⟨rfl, rfl, rfl⟩ := trodAll_nil r1
  obtain rfl : args = #[v0, v1] := by cases args; simp_all
  obtain ⟨rfl, rfl⟩ := trodVars_none hV
  have k0 := h0
  have k1 := h1
  have lt0 : ∀ x ∈ p0, x.block < W.heap.size := by obtain ⟨m, hm⟩ := k0; exact DataW.trod_lt m _ _ _ hm
  have lt1 : ∀ x ∈ p1, x.block < W.heap.size := by obtain ⟨m, hm⟩ := k1; exact DataW.trod_lt m _ _ _ hm
  obtain ⟨u0, u1, u2, u3, y0, y1, y2, y3, m, rfl, hd, hp, hy0, hy1, hy2, hy3⟩ := open_agg4 Try.underlying25 (by kernel_rfl) (by kernel_rfl) (hval 0 25 v0 rfl rfl) h0
  obtain ⟨a0, e0, -, w0⟩ := DataW.trod_int Try.underlying22 hy0
  obtain ⟨a1, e1, -, -⟩ := DataW.trod_int Try.underlying2 hy1
  obtain ⟨a2, e2, -, -⟩ := DataW.trod_int Try.underlying2 hy2
  obtain ⟨a3, e3, -, -⟩ := DataW.trod_int Try.underlying23 hy3
  simp only [List.cons.injEq, and_true] at e0 e1 e2 e3
  subst e0 e1 e2 e3
  simp only [Lit.wf, Bool.and_eq_true, decide_eq_true_eq] at w0
  obtain ⟨A0, n0, c0, rfl⟩ := okWide_slice Try.underlying26 (hval 1 26 v1 rfl rfl)
  obtain ⟨f1, hf1⟩ := h1
  obtain ⟨A, n, c, ls, hcs, hls, -, hlen⟩ := open_sets hf1
  simp only [Value.cells, List.cons.injEq, and_true] at hcs
  injection hcs with hc1 hc2 hc3
  subst hc1 hc2 hc3
  have hn : n0 + 4096 ≤ 140737488355328 := by
    rcases hlen with rfl | ⟨elems, sp, hd1, hle⟩
    · omega
    · have hd1' : d1 = .slice elems sp := hd1
      subst hd1'
      have := sized_slice hsz (j := 1) (t := 26) (e := 5) rfl rfl Try.underlying26
      rw [show Try.checked.prog.bytesOf 5 = 1 from by kernel_rfl] at this
      unfold reachBytes at this
      omega
  clear hA0 hval0
  refine (capsOver_walk a0 a1 a2 a3 A0 n0 c0 ls W hls hn w0.1 w0.2).mono fun e W' ⟨he, hx⟩ => ?_
  have bel := hx.below
  subst he
  exact ⟨_, rfl, _, _, _, [], _, [], hW', trodAll_mk1 (shut_bool Try.underlying4 _), (trodAll_cons_mk (Below.trod laidOut_ (by kernel_rfl) (of_decide_eq_true (by kernel_rfl)) k0 bel lt0) (trodAll_cons_mk (Below.trod laidOut_ (by kernel_rfl) (of_decide_eq_true (by kernel_rfl)) k1 bel lt1) trodAll_mk0)), rfl, bel.frame _, fun h => by cases h⟩

/-- The statement. -/
theorem capsOver_holds : Rows.CapsOverSaid :=
  OpenClaim.holds_of_wide 3 Try.f3 rfl rfl rfl rfl rfl rfl rfl ⟨rfl, rfl, rfl, rfl, rfl⟩ rfl rfl rfl rfl rfl (by kernel_rfl) Try.func3 (by kernel_rfl)
    (of_decide_eq_true (by kernel_rfl)) (by unfold Func.isWrapper; rw [if_neg (of_decide_eq_false (by kernel_rfl))]; exact ⟨rfl, rfl⟩)
    (fun os started H enc _ => capsOver_lifted os started H enc)
#print axioms capsOver_holds
end Go.Proofs.Ytbicaejpckcfbaa
