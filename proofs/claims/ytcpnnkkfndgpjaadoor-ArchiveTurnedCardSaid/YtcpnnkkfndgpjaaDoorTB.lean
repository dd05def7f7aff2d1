/- Names and the parts of a path: Check, parts. -/
import Derived.Test.YtcpnnkkfndgpjaaDoorTA
import Derived.Test.YtcpnnkkfndgpjaaDoorPD
namespace Go.Proofs.YtcpnnkkfndgpjaaDoor
open Go.RowKit

theorem ret_i {k : IntKind} {a b : Int} (h : a = b) : Ending.returned (.int k a) = .returned (.int k b) := by rw [h]
theorem str_ne {a b : ByteArray} (h : a ≠ b) : (a.toList == b.toList) = false := by
  rw [beq_eq_false_iff_ne]
  intro e
  rw [Lib.toList_data, Lib.toList_data] at e
  exact h ((mkB_data a).symm.trans ((congrArg mkB e).trans (mkB_data b)))
theorem dot_ne {s : ByteArray} (h : s ≠ dotB) : (s.toList == [46]) = false := by
  have := str_ne h
  rwa [show dotB.toList = [46] from by rw [Lib.toList_data]; rfl] at this
theorem dots_ne {s : ByteArray} (h : s ≠ dotsB) : (s.toList == [46, 46]) = false := by
  have := str_ne h
  rwa [show dotsB.toList = [46, 46] from by rw [Lib.toList_data]; rfl] at this
theorem empty_ne {s : ByteArray} (h : s ≠ emptyB) : s.toList.isEmpty = false := by
  rw [Lib.toList_data]
  cases hd : s.data.toList with
  | nil => exact absurd ((mkB_data s).symm.trans (by rw [hd]; rfl)) h
  | cons _ _ => rfl
def checkV (s : ByteArray) : Int := if nameB s = true then 0 else 190
set_option maxRecDepth 20000 in
theorem check_any (s : ByteArray) (w : World) (hs : s.size ≤ 5000) :
    Calls Tryd.prog 51 #[.string s] w fun e w' => e = .returned (.int .i64 (checkV s)) ∧ Ext w w' := by
  by_cases h1 : s = emptyB
  · subst h1
    have hv : Hid (checkV emptyB = 190) := Lib.hid (by decide)
    unfold emptyB
    go_enter Tryd.func51, Tryd.ntmps51
    go_wp2_with fail
    go_ret
    exact ⟨ret_i hv.out.symm, Ext.refl _⟩
  have e1 := empty_ne h1
  by_cases h2 : s.size ≤ 64
  · by_cases h3 : s = dotB
    · subst h3
      have hv : Hid (checkV dotB = 190) := Lib.hid (by decide)
      unfold dotB at *
      go_enter Tryd.func51, Tryd.ntmps51
      go_wp2_with fail
      go_ret
      exact ⟨ret_i hv.out.symm, Ext.refl _⟩
    have e3 := dot_ne h3
    by_cases h4 : s = dotsB
    · subst h4
      have hv : Hid (checkV dotsB = 190) := Lib.hid (by decide)
      unfold dotsB at *
      go_enter Tryd.func51, Tryd.ntmps51
      go_wp2_with fail
      go_ret
      exact ⟨ret_i hv.out.symm, Ext.refl _⟩
    have e4 := dots_ne h4
    have hc := containsAny_slz s w hs
    unfold slz at hc
    have hnb : nameB s = !(s.data.toList.any badB) := by
      unfold nameB
      rw [decide_eq_true h1, decide_eq_true h2, decide_eq_true h3, decide_eq_true h4]
      rfl
    have HC := Lib.hid hc
    have h2' : ¬ ((64 : Int) < (s.size : Int)) := by omega
    clear hc
    cases ha : s.data.toList.any badB
    all_goals
      rw [ha] at hnb HC
      have Hnb := Lib.hid hnb
      clear hnb ha
      go_enter Tryd.func51, Tryd.ntmps51
      go_wp2_with fail
      refine HC.out.mono ?_
      rintro e w1 ⟨rfl, hx⟩
      go_wp2_with fail
      go_ret
      exact ⟨ret_i (by unfold checkV; rw [Hnb.out]; rfl), hx⟩
  · have hv : Hid (checkV s = 190) := Lib.hid (if_neg (by unfold nameB; rw [decide_eq_false h2]; simp))
    have h2' : (64 : Int) < (s.size : Int) := by omega
    go_enter Tryd.func51, Tryd.ntmps51
    go_wp2_with fail
    go_ret
    exact ⟨ret_i hv.out.symm, Ext.refl _⟩
/-- A list of texts that has come into being since w0. -/
def MineS (w0 w : World) (v : Value) (l : List ByteArray) : Prop := Ext w0 w ∧ Own w 9 1 v l.length (l.map Value.string) ∧ ∀ k, v.ownBlock = some k → w0.heap.size ≤ k
section
variable {w0 w w' : World} {v v' : Value} {l m : List ByteArray}
theorem MineS.ext (h : MineS w0 w v l) (hx : Ext w w') : MineS w0 w' v l := ⟨h.1.trans hx, h.2.1.ext hx, h.2.2⟩
theorem MineS.nil (hx : Ext w0 w) : MineS w0 w (.slice none 0 0) [] := ⟨hx, Own.nil w 9 1, fun k h => by simp [Value.ownBlock] at h⟩
theorem MineS.push (h : MineS w0 w v l) (m : List ByteArray) {n : Nat} (hn : n = m.length) (ho : Own w' 9 1 v' (l.length + n) (l.map Value.string ++ m.map Value.string)) (hg : w.grownBy w' v.ownBlock) (hv : v'.ownBlock = v.ownBlock ∨ v'.ownBlock = some w.heap.size) : MineS w0 w' v' (l ++ m) := by
  subst hn
  refine ⟨h.1.grown hg (fun k e => h.2.2 k e), by rw [List.length_append, List.map_append]; exact ho, fun k e => ?_⟩
  rcases hv with hv | hv
  · exact h.2.2 k (hv ▸ e)
  · rw [hv] at e
    injection e with e
    have := h.1.size
    omega
end
theorem Tryd.info9 : (Tryd.prog.info? 9).map (fun i => (i.zero, i.size, i.bytes)) = some (some (.string ⟨#[]⟩), 1, 16) := by kernel_rfl
theorem strs_one (l : List ByteArray) : ∀ u ∈ l.map Value.string, u.oneCell' = true := by
  intro u hu
  obtain ⟨_, _, rfl⟩ := List.mem_map.1 hu
  rfl
theorem new_cells (w : World) (l : List Value) (e : TypeId) (j : Nat) (u : Value) (h : l[j]? = some u) : (w.alloc (.cells l.toArray e)).cell? ((⟨w.heap.size, 0, none⟩ : Addr).add j) = some u := by
  rw [add_off, Nat.zero_add, (Ext.refl _).cell_new]
  simpa using h
def saysTo (l : List ByteArray) (k : Nat) : List ByteArray := (l.take k).filter saysB
theorem saysTo_succ {l : List ByteArray} {k : Nat} {p : ByteArray} (h : l[k]? = some p) : saysTo l (k + 1) = saysTo l k ++ (if saysB p = true then [p] else []) := by
  obtain ⟨h1, h2⟩ := List.getElem?_eq_some_iff.1 h
  unfold saysTo
  rw [List.take_succ_eq_append_getElem h1, h2, List.filter_append]
  congr 1
  cases h : saysB p <;> simp [h]
theorem saysTo_len (l : List ByteArray) (k : Nat) : (saysTo l k).length ≤ l.length := by
  have h1 := List.length_filter_le saysB (l.take k)
  have h2 := List.length_take_le' k l
  unfold saysTo
  omega
set_option maxRecDepth 20000 in
set_option maxHeartbeats 1000000 in
theorem parts_any (s : ByteArray) (m : Int) (w : World) (hs : s.size ≤ 5000) (hm : w.cell? ⟨0, 0, none⟩ = some (.int .i64 m)) :
    Calls Tryd.prog 50 #[.string s] w fun e w' => ∃ v, e = .returned v ∧ MineS w w' v (partsN s) := by
  obtain ⟨ps, hps⟩ : ∃ ps, pieces s = ps := ⟨_, rfl⟩
  have hsp := Tryd.strings_Split s ⟨#[47]⟩ m w (by omega) hm (by decide)
  have hlen := Lib.splitB_all ⟨#[47]⟩ (by decide) 0 _ s rfl
  rw [split_pieces, hps] at hsp hlen
  rw [← hlen] at hsp
  have hwt := weight_pieces s
  rw [hps] at hwt
  have hpl : ps.length ≤ 5001 := by have := length_weight ps; have : s.data.size = s.size := rfl; omega
  have HE : Hid (partsN s = saysTo ps ps.length) := Lib.hid (by unfold partsN saysTo; rw [hps, List.take_length])
  have Hsp := Lib.hid hsp
  clear hsp hwt hlen hps hm
  have HK0 : Hid (∀ k p, ps[k]? = some p → ∀ wx, Ext (w.alloc (.cells (List.map Value.string ps).toArray 9)) wx → wx.cell? ⟨w.heap.size, k, none⟩ = some (.string p)) := Lib.hid (fun k p hp wx hx => by rw [hx.cell_new]; simp [hp])
  have HX0 : Hid (Ext w (w.alloc (.cells (List.map Value.string ps).toArray 9))) := (Ext.refl _).alloc _
  obtain ⟨w0, hw0⟩ : ∃ w0, w.alloc (.cells (List.map Value.string ps).toArray 9) = w0 := ⟨_, rfl⟩
  rw [hw0] at HK0 HX0
  have HW0 := Lib.hid hw0
  obtain ⟨nl, hnl⟩ : ∃ n, ps.length = n := ⟨_, rfl⟩
  have Hnl := Lib.hid hnl
  rw [hnl] at hpl
  clear hw0 hnl
  obtain ⟨i, hi, hz, hsz, hby⟩ := info_parts Tryd.info9
  go_enter Tryd.func50, Tryd.ntmps50
  go_wp2_with (go_at_call 57; refine Hsp.out.mono ?_; rintro e w1 ⟨rfl, rfl⟩; rw [HW0.out, Hnl.out])
  go_loopw [3, 9] (fun lv iv wr => ∃ (k : Nat) (A : Option Addr) (n c : Nat), k ≤ nl ∧ iv = .int .i64 (k : Int) ∧ lv = .slice A n c ∧ n = (saysTo ps k).length ∧ MineS w0 wr (.slice A n c) (saysTo ps k)) (fun _ iv _ => nl - (intOf iv).toNat)
  case atStart => exact ⟨0, none, 0, 0, Nat.zero_le _, rfl, rfl, rfl, MineS.nil (Ext.refl _)⟩
  case round =>
    obtain ⟨k, A, n, c, hk, rfl, rfl, hn, hmi⟩ := hrel
    have HMi := Lib.hid hmi
    have Hn := Lib.hid hn
    have hn5 : n ≤ 5001 := by have := saysTo_len ps k; have := Hnl.out; omega
    have HO : Hid (Own wr 9 1 (.slice A n c) n ((saysTo ps k).map Value.string)) := Lib.hid (by have := hmi.2.1; rwa [← hn] at this)
    clear hmi hn
    by_cases hlt : k < nl
    · obtain ⟨p, hp⟩ : ∃ p, ps[k]? = some p := ⟨_, List.getElem?_eq_getElem (by have := Hnl.out; omega)⟩
      have c0 := HK0.out k p hp wr HMi.out.1
      have Hs := Lib.hid (saysTo_succ hp)
      clear hp
      by_cases h1 : p = emptyB
      · have Hs2 : Hid (saysTo ps (k + 1) = saysTo ps k) := Lib.hid (by rw [Hs.out, if_neg (by rw [h1]; decide), List.append_nil])
        subst h1
        unfold emptyB at c0
        go_wp2_with fail
        go_roundw
        case rel => exact ⟨k + 1, A, n, c, by omega, by go_num, rfl, by rw [Hs2.out]; exact Hn.out, by rw [Hs2.out]; exact HMi.out⟩
        case measure => simp [intOf]; omega
      by_cases h2 : p = dotB
      · have Hs2 : Hid (saysTo ps (k + 1) = saysTo ps k) := Lib.hid (by rw [Hs.out, if_neg (by rw [h2]; decide), List.append_nil])
        subst h2
        unfold dotB at c0
        go_wp2_with fail
        go_roundw
        case rel => exact ⟨k + 1, A, n, c, by omega, by go_num, rfl, by rw [Hs2.out]; exact Hn.out, by rw [Hs2.out]; exact HMi.out⟩
        case measure => simp [intOf]; omega
      have e1 := empty_ne h1
      have e2 := dot_ne h2
      have Hs2 : Hid (saysTo ps (k + 1) = saysTo ps k ++ [p]) := Lib.hid (by rw [Hs.out, if_pos (by unfold saysB; rw [decide_eq_true h1, decide_eq_true h2]; rfl)])
      clear h1 h2
      go_wp2_with (at_builtin; refine wpList_append_own_any _ rfl (.tmp 19) (.tmp 21) 77 rfl 9 i _ 1 16 Tryd.underlying77 hi hz hsz hby rfl (by decide) (.slice A n c) n ((saysTo ps k).map Value.string) rfl (HO.out.ext ((Ext.refl _).alloc _)) (some ⟨wr.heap.size, 0, none⟩) 1 1 ([p].map Value.string) rfl rfl (fun _ => ⟨_, rfl, new_cells _ _ _⟩) (strs_one [p]) (by unfold maxLen; omega) (by omega) ?_)
      intro v' w9 ho hg hv'
      have HN2 := Lib.hid ((HMi.out.ext ((Ext.refl _).alloc _)).push (v' := v') [p] rfl (by rw [← Hn.out]; exact ho) hg (by simpa using hv'))
      obtain ⟨A', c', rfl, -, -⟩ := ho.form
      clear ho hg hv'
      go_wp2_with fail
      go_roundw
      case rel => exact ⟨k + 1, A', n + 1, c', by omega, by go_num, rfl, by rw [Hs2.out]; simp [Hn.out], by rw [Hs2.out]; exact HN2.out⟩
      case measure => simp [intOf]; omega
    · have hkn : k = nl := by omega
      have He : Hid (saysTo ps k = partsN s) := Lib.hid (by rw [HE.out, hkn, Hnl.out])
      clear hkn
      go_wp2_with fail
      go_ret
      exact ⟨_, rfl, by have := HMi.out; rw [He.out] at this; exact ⟨HX0.out.trans this.1, this.2.1, fun k hk => Nat.le_trans HX0.out.size (this.2.2 k hk)⟩⟩
end Go.Proofs.YtcpnnkkfndgpjaaDoor
