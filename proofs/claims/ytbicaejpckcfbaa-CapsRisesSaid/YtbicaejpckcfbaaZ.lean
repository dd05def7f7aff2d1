/- Who can more below never can less above: the statement CapsRises, without a condition. -/
import Derived.Test.YtbicaejpckcfbaaY
import Derived.Test.YtbicaejpckcfbaaS
namespace Go.Proofs.Ytbicaejpckcfbaa
open Go.ChangeShapes Go.WideShapes Go.ChangeAt Go.RowKit Go.Joins

set_option maxRecDepth 100000 in
theorem capsRises_lifted (os : Os) (started : os.Started) (H : Type) (enc : TypeId × Value → H) :
    ReturnsInHanded {} Try.checked os 7 .any (Rows.capsRisesSpec.pre6 enc Try.prog Try.f7 Rows.capsRisesRow.domain false) (Rows.capsRisesSpec.post enc Try.prog Try.f7 false true false false) := by
  refine returnsInHanded_of_change_sized (C := Try.checked) own_ started (by kernel_rfl) Try.func7
    (ChangeSpec.witness6 (enc := enc) (C := Try.checked) false ⟨#[], #[.agg #[.int .i8 0, .int .i64 0, .int .i64 0, .int .u64 0], .slice none 0 0, .slice none 0 0, .slice none 0 0, .int .u8 0], []⟩ 8 (by kernel_rfl) (by kernel_rfl) (by kernel_rfl) (by kernel_rfl)) ?_
  intro W base args ds gs before hval0 hW hcnd hsz _
  have hval : ∀ (j : Nat) t v, Try.f7.params[j]? = some t → args[j]? = some v → Value.okWide Try.prog W .any base t v := hval0
  have hW' := hW
  obtain ⟨p, q, hA0, hV, rfl, hfz, hnd⟩ := hW
  have hA : DataW.TrodAll enc Try.prog W 0 (fun _ => true) true Try.f7.params.toList args.toList ds p := hA0
  rw [Try.params7] at hA hval hsz
  obtain ⟨v0, vs0, d0, ds0, p0, q0, hargs, rfl, rfl, h0, r0⟩ := trodAll_cons hA
  obtain ⟨v1, vs1, d1, ds1, p1, q1, rfl, rfl, rfl, h1, r1⟩ := trodAll_cons r0
  obtain ⟨v2, vs2, d2, ds2, p2, q2, rfl, rfl, rfl, h2, r2⟩ := trodAll_cons r1
  obtain ⟨v3, vs3, d3, ds3, p3, q3, rfl, rfl, rfl, h3, r3⟩ := trodAll_cons r2
  obtain ⟨v4, vs4, d4, ds4, p4, q4, rfl, rfl, rfl, h4, r4⟩ := trodAll_cons r3
  obtain ⟨rfl, rfl, rfl⟩ := trodAll_nil r4
  obtain rfl : args = #[v0, v1, v2, v3, v4] := by cases args; simp_all
  obtain ⟨rfl, rfl⟩ := trodVars_none hV
  have k0 := h0
  have k1 := h1
  have k2 := h2
  have k3 := h3
  have lt0 : ∀ x ∈ p0, x.block < W.heap.size := by obtain ⟨m, hm⟩ := k0; exact DataW.trod_lt m _ _ _ hm
  have lt1 : ∀ x ∈ p1, x.block < W.heap.size := by obtain ⟨m, hm⟩ := k1; exact DataW.trod_lt m _ _ _ hm
  have lt2 : ∀ x ∈ p2, x.block < W.heap.size := by obtain ⟨m, hm⟩ := k2; exact DataW.trod_lt m _ _ _ hm
  have lt3 : ∀ x ∈ p3, x.block < W.heap.size := by obtain ⟨m, hm⟩ := k3; exact DataW.trod_lt m _ _ _ hm
  obtain ⟨u0, u1, u2, u3, y0, y1, y2, y3, m, rfl, hd, hp, hy0, hy1, hy2, hy3⟩ := open_agg4 Try.underlying25 (by kernel_rfl) (by kernel_rfl) (hval 0 25 v0 rfl rfl) h0
  obtain ⟨a0, e0, -, w0⟩ := DataW.trod_int Try.underlying22 hy0
  obtain ⟨a1, e1, -, -⟩ := DataW.trod_int Try.underlying2 hy1
  obtain ⟨a2, e2, -, -⟩ := DataW.trod_int Try.underlying2 hy2
  obtain ⟨a3, e3, -, -⟩ := DataW.trod_int Try.underlying23 hy3
  simp only [List.cons.injEq, and_true] at e0 e1 e2 e3
  subst e0 e1 e2 e3
  simp only [Lit.wf, Bool.and_eq_true, decide_eq_true_eq] at w0
  obtain ⟨A0, n0, c0, rfl⟩ := okWide_slice Try.underlying26 (hval 1 26 v1 rfl rfl)
  obtain ⟨f1, hf1⟩ := h1
  obtain ⟨A, n, c, xs, hcs, hxs, hx256, hlen⟩ := open_sets hf1
  simp only [Value.cells, List.cons.injEq, and_true] at hcs
  injection hcs with hc1 hc2 hc3
  subst hc1 hc2 hc3
  obtain ⟨B0, n1, c1, rfl⟩ := okWide_slice Try.underlying26 (hval 2 26 v2 rfl rfl)
  obtain ⟨f2, hf2⟩ := h2
  obtain ⟨B, n', c', ys, hcs2, hys, hy256, hlen2⟩ := open_sets hf2
  simp only [Value.cells, List.cons.injEq, and_true] at hcs2
  injection hcs2 with hd1 hd2 hd3
  subst hd1 hd2 hd3
  obtain ⟨C0, n2, c2, rfl⟩ := okWide_slice Try.underlying35 (hval 3 35 v3 rfl rfl)
  obtain ⟨f3, hf3⟩ := h3
  obtain ⟨C, n'', c'', ls, hcs3, hls, hok, hlen3⟩ := open_wraps hf3
  simp only [Value.cells, List.cons.injEq, and_true] at hcs3
  injection hcs3 with hg1 hg2 hg3
  subst hg1 hg2 hg3
  have hb5 : Try.checked.prog.bytesOf 5 = 1 := by kernel_rfl
  have hb25 : Try.checked.prog.bytesOf 25 = 32 := by kernel_rfl
  have hn : n0 + 4096 ≤ 140737488355328 := by
    rcases hlen with rfl | ⟨elems, sp, hd1, hle⟩
    · omega
    · have hd1' : d1 = .slice elems sp := hd1
      subst hd1'
      have := sized_slice hsz (j := 1) (t := 26) (e := 5) rfl rfl Try.underlying26
      rw [hb5] at this
      unfold reachBytes at this
      omega
  have hn1 : n1 + 4096 ≤ 140737488355328 := by
    rcases hlen2 with rfl | ⟨elems, sp, hd1, hle⟩
    · omega
    · have hd1' : d2 = .slice elems sp := hd1
      subst hd1'
      have := sized_slice hsz (j := 2) (t := 26) (e := 5) rfl rfl Try.underlying26
      rw [hb5] at this
      unfold reachBytes at this
      omega
  have hn2 : n2 ≤ 9223372036854775807 := by
    rcases hlen3 with rfl | ⟨elems, sp, hd1, hle⟩
    · omega
    · have hd1' : d3 = .slice elems sp := hd1
      subst hd1'
      have := sized_slice hsz (j := 3) (t := 35) (e := 25) rfl rfl Try.underlying35
      rw [hb25] at this
      unfold reachBytes at this
      omega
  obtain ⟨a, rfl, rfl, rfl, w4⟩ := open_int Try.underlying5 (hval 4 5 v4 rfl rfl) h4
  have w4' := w4
  simp only [Lit.wf, Bool.and_eq_true, decide_eq_true_eq] at w4'
  have b0 : (0 : Int) ≤ a := w4'.1
  have b1 : a ≤ 255 := w4'.2
  clear hA0 hval0
  obtain ⟨a, rfl⟩ := Int.eq_ofNat_of_zero_le b0
  refine (capsRises_walk a0 a1 a2 a3 A0 n0 c0 xs B0 n1 c1 ys C0 n2 c2 ls a W w0.1 w0.2 hxs hys hx256 hy256 hn hn1 hls hok hn2 (by omega)).mono fun e W' ⟨he, hx⟩ => ?_
  have bel := hx.below
  subst he
  exact ⟨_, rfl, _, _, _, [], _, [], hW', trodAll_mk1 (shut_bool Try.underlying4 _), (trodAll_cons_mk (Below.trod laidOut_ (by kernel_rfl) (of_decide_eq_true (by kernel_rfl)) k0 bel lt0) (trodAll_cons_mk (Below.trod laidOut_ (by kernel_rfl) (of_decide_eq_true (by kernel_rfl)) k1 bel lt1) (trodAll_cons_mk (Below.trod laidOut_ (by kernel_rfl) (of_decide_eq_true (by kernel_rfl)) k2 bel lt2) (trodAll_cons_mk (Below.trod laidOut_ (by kernel_rfl) (of_decide_eq_true (by kernel_rfl)) k3 bel lt3) (trodAll_cons_mk (shut_int Try.underlying5 w4) trodAll_mk0))))), rfl, bel.frame _, fun h => by cases h⟩

/-- The statement. -/
theorem capsRises_holds : Rows.CapsRisesSaid :=
  OpenClaim.holds_of_wide 7 Try.f7 rfl rfl rfl rfl rfl rfl rfl ⟨rfl, rfl, rfl, rfl, rfl⟩ rfl rfl rfl rfl rfl (by kernel_rfl) Try.func7 (by kernel_rfl)
    (of_decide_eq_true (by kernel_rfl)) (by unfold Func.isWrapper; rw [if_neg (of_decide_eq_false (by kernel_rfl))]; exact ⟨rfl, rfl⟩)
    (fun os started H enc _ => capsRises_lifted os started H enc)
#print axioms capsRises_holds
end Go.Proofs.Ytbicaejpckcfbaa
