/- The law's own 'meet' and 'goes'. -/
import Derived.Test.YtpjgfkdnjkfnfaaU
import Derived.Test.YtpjgfkdnjkfnfaaR
namespace Go.Proofs.Ytpjgfkdnjkfnfaa
open Go.RowKit Go.Maps

theorem lawmeet_eq {wa pa na : Int} {sa : Bool} {wb pb nb : Int} {sb : Bool} :
    meetB ⟨wa, pa, na, sa⟩ ⟨wb, pb, nb, sb⟩ = (!(decide (0 < na) && decide (na ≤ pb - pa) || decide (0 < nb) && decide (nb ≤ pa - pb)) && !decide (wa = wb) && !(sa && sb)) := by
  have e1 : decide (pa + na ≤ pb) = decide (na ≤ pb - pa) := by by_cases h : na ≤ pb - pa <;> simp <;> omega
  have e2 : decide (pb + nb ≤ pa) = decide (nb ≤ pa - pb) := by by_cases h : nb ≤ pa - pb <;> simp <;> omega
  simp only [meetB, aheadB, e1, e2]
  cases decide (wa = wb) <;> cases (sa && sb) <;> cases (decide (0 < na) && decide (na ≤ pb - pa)) <;> cases (decide (0 < nb) && decide (nb ≤ pa - pb)) <;> rfl

set_option maxRecDepth 20000 in
theorem lawmeet_any (wa pa na : Int) (sa : Bool) (wb pb nb : Int) (sb : Bool) (w : World) (h0 : 0 ≤ pa) (h1 : 0 ≤ na) (h2 : pa + na ≤ 4611686018427387904) (h3 : 0 ≤ pb) (h4 : 0 ≤ nb) (h5 : pb + nb ≤ 4611686018427387904) :
    Calls Try.prog 13 #[.agg #[.int .i64 wa, .int .i64 pa, .int .i64 na, .bool sa], .agg #[.int .i64 wb, .int .i64 pb, .int .i64 nb, .bool sb]] w
      fun e w' => e = .returned (.bool (meetB ⟨wa, pa, na, sa⟩ ⟨wb, pb, nb, sb⟩)) ∧ Ext w w' := by
  go_enter Try.func13, Try.ntmps13
  go_wp2
  all_goals
    go_ret
    refine ⟨ret_bool ?_, by repeat (first | assumption | exact Ext.refl _ | exact Mod.refl _ _ | refine Ext.trans ?_ (by assumption) | apply Ext.alloc | apply Ext.drew | apply Ext.drewN)⟩
    rw [lawmeet_eq]
    simp [*]
    try omega

/-- A step's lock, its who brought into six. -/
def six (wa : Int) : Int := (wrap64 (wa.tmod 6 + 6)).tmod 6
theorem six_lt (wa : Int) : 0 ≤ six wa ∧ six wa < 6 := by
  have h : wa.tmod 6 = (if 0 ≤ wa then wa % 6 else -((-wa) % 6)) := by
    split
    · exact Int.tmod_eq_emod_of_nonneg (by assumption)
    · have : (-(-wa)).tmod 6 = -((-wa).tmod 6) := Int.neg_tmod _ _
      rw [Int.neg_neg] at this
      rw [this, Int.tmod_eq_emod_of_nonneg (by omega)]
  unfold six
  have h1 : -6 < wa.tmod 6 ∧ wa.tmod 6 < 6 := by rw [h]; split <;> omega
  rw [IntWalk.wrap64_in _ ⟨by omega, by omega⟩, Int.tmod_eq_emod_of_nonneg (by omega)]
  omega
noncomputable def goesF (d : Int) (l : Lk) (H W : List Lk) : List Lk × List Lk :=
  if d = 0 then (tryH l H W, W) else if d = 1 then waitH l H W else if d = 2 then ((freeF l H W).2.1, (freeF l H W).2.2.1) else (H, W)
theorem Inv.goes {H W : List Lk} (h : Inv H W) (d : Int) (l : Lk) : Inv (goesF d l H W).1 (goesF d l H W).2 := by
  unfold goesF
  split
  · exact h.tries l
  · split
    · exact h.waits l
    · split
      · exact h.frees l
      · exact h
theorem Whos.goes {p H W} (h : Whos p H W) (d : Int) {l : Lk} (hl : p l.who) : Whos p (goesF d l H W).1 (goesF d l H W).2 := by
  unfold goesF
  split
  · exact h.tries hl
  · split
    · exact h.waits hl
    · split
      · exact h.frees l
      · exact h

set_option maxRecDepth 20000 in
set_option maxHeartbeats 1000000 in
theorem goes_any (w0 w : World) (t : Nat) (H W : List Lk) (d wa pa na : Int) (sa : Bool) (hT : TabB w0 w t H W) :
    Calls Try.prog 10 #[.pointer (some ⟨t, 0, none⟩), .agg #[.int .i8 d, .int .i64 wa, .int .i64 pa, .int .i64 na, .bool sa], .int .i64 6] w
      fun e w' => (∃ v, e = .returned v) ∧ TabB w0 w' t (goesF d ⟨six wa, pa, na, sa⟩ H W).1 (goesF d ⟨six wa, pa, na, sa⟩ H W).2 := by
  have HT : Hid (∀ wx, Ext w wx → TabB w0 wx t H W) := fun wx h => hT.ext h
  clear hT
  have HS : Hid ((wrap64 (wa.tmod 6 + 6)).tmod 6 = six wa) := rfl
  by_cases h0 : d = 0
  · subst h0
    go_enter Try.func10, Try.ntmps10
    go_wp2_with fail
    rw [HS.out]
    refine (try_b w0 _ t H W (six wa) pa na sa (HT.out _ (by repeat (first | assumption | exact Ext.refl _ | exact Mod.refl _ _ | refine Ext.trans ?_ (by assumption) | apply Ext.alloc | apply Ext.drew | apply Ext.drewN)))).mono ?_
    rintro e w1 ⟨rfl, hT1⟩
    have HT1 := Lib.hid hT1
    clear hT1
    go_wp2_with fail
    go_ret
    exact ⟨⟨_, rfl⟩, HT1.out⟩
  · by_cases h1 : d = 1
    · subst h1
      go_enter Try.func10, Try.ntmps10
      go_wp2_with fail
      rw [HS.out]
      refine (wait_b w0 _ t H W (six wa) pa na sa (HT.out _ (by repeat (first | assumption | exact Ext.refl _ | exact Mod.refl _ _ | refine Ext.trans ?_ (by assumption) | apply Ext.alloc | apply Ext.drew | apply Ext.drewN)))).mono ?_
      rintro e w1 ⟨rfl, hT1⟩
      have HT1 := Lib.hid hT1
      clear hT1
      go_wp2_with fail
      go_ret
      exact ⟨⟨_, rfl⟩, HT1.out⟩
    · by_cases h2 : d = 2
      · subst h2
        go_enter Try.func10, Try.ntmps10
        go_wp2_with fail
        rw [HS.out]
        refine (free_b w0 _ t H W (six wa) pa na sa (HT.out _ (by repeat (first | assumption | exact Ext.refl _ | exact Mod.refl _ _ | refine Ext.trans ?_ (by assumption) | apply Ext.alloc | apply Ext.drew | apply Ext.drewN)))).mono ?_
        rintro e w1 ⟨A, c, rfl, hT1, -⟩
        have HT1 := Lib.hid hT1
        clear hT1
        go_wp2_with fail
        go_ret
        exact ⟨⟨_, rfl⟩, HT1.out⟩
      · have b0 : (d == 0) = false := by simpa using h0
        have b1 : (d == 1) = false := by simpa using h1
        have b2 : (d == 2) = false := by simpa using h2
        have Hg : Hid (goesF d ⟨six wa, pa, na, sa⟩ H W = (H, W)) := by show _ = _; simp [goesF, h0, h1, h2]
        clear h0 h1 h2
        go_enter Try.func10, Try.ntmps10
        go_wp2_with fail
        go_ret
        refine ⟨⟨_, rfl⟩, ?_⟩
        rw [Hg.out]
        exact HT.out _ (by repeat (first | assumption | exact Ext.refl _ | exact Mod.refl _ _ | refine Ext.trans ?_ (by assumption) | apply Ext.alloc | apply Ext.drew | apply Ext.drewN))
end Go.Proofs.Ytpjgfkdnjkfnfaa
