/- May a path be, behind another one? -/
import Derived.Test.YtcpnnkkfndgpjaaDoorTC
import Derived.Test.YtcpnnkkfndgpjaaDoorSB
namespace Go.Proofs.YtcpnnkkfndgpjaaDoor
open Go.RowKit

/-- The clean one: what it is as it is when clean, and behind another one. -/
def okP (p ahead : Bs) : Bool := decide (mkB p ≠ emptyB) && decide (cleanN (mkB p) = (mkB p, 0)) && (!Op.bytesLess p ahead && !p == ahead)
theorem okP_len (p a : Bs) (h : okP p a = true) : 1 ≤ p.length ∧ p.length ≤ 4096 := by
  unfold okP at h
  rw [Bool.and_eq_true, Bool.and_eq_true, decide_eq_true_eq, decide_eq_true_eq] at h
  have h1 := cleanN_len h.1.2
  have h2 : (mkB p).size = p.length := by show p.toArray.size = _; simp
  refine ⟨?_, by omega⟩
  cases p with
  | nil => exact absurd rfl h.1.1
  | cons _ _ => simp
def Sp.real : Sp := ⟨fun s c => ((s ^^^ c.toNat) * 1099511628211) % 18446744073709551616, okP, fun _ _ => rfl, okP_len⟩
/-- The sum's step, whatever; the path's test, the real one. -/
structure IsReal (Z : Sp) : Prop where
  ok : Z.ok = okP
set_option maxRecDepth 20000 in
theorem cleanp_any (p a : Bs) (m : Int) (w : World) (hs : p.length ≤ 1073741824) (hm : w.cell? ⟨0, 0, none⟩ = some (.int .i64 m)) :
    Calls Tryd.prog 27 #[.string (mkB p), .string (mkB a)] w fun e w' => e = .returned (.bool (okP p a)) ∧ Ext w w' := by
  have hsz : (mkB p).size = p.length := by show p.toArray.size = _; simp
  have hc := clean_any (mkB p) m w (by omega) hm
  have hpd : (mkB p).toList = p := by rw [Lib.toList_data]; simp [mkB]
  have had : (mkB a).toList = a := by rw [Lib.toList_data]; simp [mkB]
  obtain ⟨s, hs'⟩ : ∃ s, mkB p = s := ⟨_, rfl⟩
  obtain ⟨b, hb'⟩ : ∃ s, mkB a = s := ⟨_, rfl⟩
  rw [hs'] at hc hpd ⊢
  rw [hb'] at had ⊢
  obtain ⟨⟨t, z⟩, htz⟩ : ∃ q, cleanN s = q := ⟨_, rfl⟩
  have HC := Lib.hid hc
  have HS := Lib.hid hs'
  have Htz := Lib.hid htz
  have Hpd := Lib.hid hpd
  have Had := Lib.hid had
  clear hc htz hm hsz hs' hb' hpd had
  by_cases h1 : s = emptyB
  · have hv : Hid (okP p a = false) := Lib.hid (by unfold okP; rw [HS.out, decide_eq_false (by simp [h1])]; rfl)
    have h2 : s.toList.isEmpty = true := by rw [h1, Lib.toList_data]; rfl
    clear h1
    go_enter Tryd.func27, Tryd.ntmps27
    go_wp2_with fail
    refine HC.out.mono ?_
    rintro e w1 ⟨rfl, hx⟩
    rw [Htz.out]
    go_wp2_with fail
    go_ret
    exact ⟨ret_bool hv.out.symm, hx⟩
  have e1 := empty_ne h1
  have H1 := Lib.hid h1
  clear h1
  by_cases h2 : z = 0
  · subst h2
    by_cases h3 : t = s
    · have h4 : (t.toList == s.toList) = true := by rw [h3]; simp
      have hv : Hid (okP p a = (!Op.bytesLess p a && !p == a)) := Lib.hid (by unfold okP; rw [HS.out, decide_eq_true H1.out, decide_eq_true (by rw [Htz.out, h3]), Bool.true_and, Bool.true_and])
      clear h3
      go_enter Tryd.func27, Tryd.ntmps27
      go_wp2_with fail
      refine HC.out.mono ?_
      rintro e w1 ⟨rfl, hx⟩
      rw [Htz.out]
      go_wp2_with fail
      go_ret
      exact ⟨ret_bool (by rw [hv.out, Hpd.out, Had.out]), hx⟩
    · have h4 := str_ne h3
      have hv : Hid (okP p a = false) := Lib.hid (by unfold okP; rw [HS.out, decide_eq_true H1.out, decide_eq_false (fun e => by rw [Htz.out] at e; exact h3 (by injection e))]; rfl)
      clear h3
      go_enter Tryd.func27, Tryd.ntmps27
      go_wp2_with fail
      refine HC.out.mono ?_
      rintro e w1 ⟨rfl, hx⟩
      rw [Htz.out]
      go_wp2_with fail
      go_ret
      exact ⟨ret_bool hv.out.symm, hx⟩
  · have h4 : (z == 0) = false := beq_eq_false_iff_ne.2 h2
    have hv : Hid (okP p a = false) := Lib.hid (by unfold okP; rw [HS.out, decide_eq_true H1.out, decide_eq_false (fun e => by rw [Htz.out] at e; exact h2 (by injection e))]; rfl)
    clear h2
    go_enter Tryd.func27, Tryd.ntmps27
    go_wp2_with fail
    refine HC.out.mono ?_
    rintro e w1 ⟨rfl, hx⟩
    rw [Htz.out]
    go_wp2_with fail
    go_ret
    exact ⟨ret_bool hv.out.symm, hx⟩
end Go.Proofs.YtcpnnkkfndgpjaaDoor
