/- A path as it is when clean: Clean; may a path be, behind another one: clean. -/
import Derived.Test.YtcpnnkkfndgpjaaDoorTB
namespace Go.Proofs.YtcpnnkkfndgpjaaDoor
open Go.RowKit

theorem leftF_step {ps : List ByteArray} {k : Nat} {p : ByteArray} (h : ps[k]? = some p) (l : List ByteArray) : leftF l (ps.drop k) = if p = dotsB then leftF l.dropLast (ps.drop (k + 1)) else if nameB p = true then leftF (l ++ [p]) (ps.drop (k + 1)) else none := by
  obtain ⟨h1, h2⟩ := List.getElem?_eq_some_iff.1 h
  rw [List.drop_eq_getElem_cons h1, h2]
  rfl
theorem Own.front {w : World} {A : Option Addr} {n c : Nat} {l : List ByteArray} (h : Own w 9 1 (.slice A n c) n (l.map Value.string)) {k : Nat} (hk : k ≤ n) : Own w 9 1 (.slice A k c) k ((l.take k).map Value.string) := by
  have hl : l.length = n := by have := h.1; simpa using this
  refine ⟨by simp; omega, ?_⟩
  rcases h.2 with ⟨hn, h0⟩ | ⟨g', off', cap, cur, hv, hg, hnc, hcm, hcs, ht⟩
  · injection hn with e1 e2 e3
    subst e1 e3
    exact .inl ⟨by rw [show k = 0 from by omega], by omega⟩
  · injection hv with h1 h2 h3
    subst h1 h3
    refine .inr ⟨g', off', c, cur, rfl, hg, by omega, hcm, hcs, ?_⟩
    rw [List.map_take, ← ht, List.take_take]
    congr 1
    omega
def CleanPost (s : ByteArray) (w : World) (e : Ending) (w' : World) : Prop := e = .returned (.tuple #[.string (cleanN s).1, .int .i64 (cleanN s).2]) ∧ Ext w w'
theorem CleanPost.of {s t : ByteArray} {z : Int} {w w' : World} (h : cleanN s = (t, z)) (hx : Ext w w') : CleanPost s w (.returned (.tuple #[.string t, .int .i64 z])) w' := by
  unfold CleanPost; rw [h]; exact ⟨rfl, hx⟩
theorem partsN_len (s : ByteArray) : (partsN s).length ≤ s.size + 1 := by
  have h1 := List.length_filter_le saysB (pieces s)
  have h2 := length_weight (pieces s)
  have h3 := weight_pieces s
  have : s.data.size = s.size := rfl
  unfold partsN
  omega
theorem partsN_mem {s p : ByteArray} (h : p ∈ partsN s) : p.size ≤ s.size := by
  have h1 := mem_weight (List.mem_filter.1 h).1
  have h3 := weight_pieces s
  have : s.data.size = s.size := rfl
  have : p.data.size = p.size := rfl
  omega
def sizes (l : List ByteArray) : Nat := (l.map fun b => b.data.size + 1).sum
theorem join_len (l : List ByteArray) : (Lib.join (l.map (·.data.toList)) [47]).length ≤ sizes l := by
  unfold Lib.join sizes
  induction l with
  | nil => simp [List.intercalate]
  | cons a l ih =>
    cases l with
    | nil => simp [List.intercalate]
    | cons b l =>
      have e : [47].intercalate (List.map (fun x : ByteArray => x.data.toList) (a :: b :: l)) = a.data.toList ++ 47 :: [47].intercalate (List.map (fun x : ByteArray => x.data.toList) (b :: l)) := by simp [List.intercalate]
      have : a.data.toList.length = a.data.size := by simp
      simp only [List.map_cons, List.sum_cons] at ih ⊢
      have e' : [47].intercalate (a.data.toList :: b.data.toList :: List.map (fun x : ByteArray => x.data.toList) l) = a.data.toList ++ 47 :: [47].intercalate (b.data.toList :: List.map (fun x : ByteArray => x.data.toList) l) := e
      rw [e', List.length_append, List.length_cons]
      omega
theorem sizes_app (l m : List ByteArray) : sizes (l ++ m) = sizes l + sizes m := by simp [sizes]
theorem sizes_dropLast (l : List ByteArray) : sizes l.dropLast ≤ sizes l := by
  conv => rhs; rw [← List.take_append_drop (l.length - 1) l]
  rw [sizes_app, List.dropLast_eq_take]
  omega
theorem join_nil (t : ByteArray) (w : World) : Calls Tryd.prog 52 #[.slice none 0 0, .string t] w fun e w' => e = .returned (.string emptyB) ∧ w = w' := by
  go_enter Tryd.func52, Tryd.ntmps52
  go_wp2
  go_ret
  exact ⟨rfl, rfl⟩
set_option maxRecDepth 20000 in
set_option maxHeartbeats 2000000 in
theorem clean_any (s : ByteArray) (m : Int) (w : World) (hs : s.size ≤ 1073741824) (hm : w.cell? ⟨0, 0, none⟩ = some (.int .i64 m)) :
    Calls Tryd.prog 41 #[.string s] w (CleanPost s w) := by
  by_cases hbig : 4096 < s.size
  · have hv : Hid (cleanN s = (emptyB, 3)) := if_pos hbig
    have hb2 : (4096 : Int) < (s.size : Int) := by omega
    go_enter Tryd.func41, Tryd.ntmps41
    go_wp2_with fail
    go_ret2
    exact CleanPost.of hv.out (Ext.refl _)
  have hb2 : ¬ ((4096 : Int) < (s.size : Int)) := by omega
  have hv : Hid (cleanN s = match leftF [] (partsN s) with | none => (emptyB, 190) | some l => (joinB l, 0)) := if_neg hbig
  have hpl := partsN_len s
  have HPM : Hid (∀ p ∈ partsN s, p.size ≤ 5000) := Lib.hid (fun p hp => by have := partsN_mem hp; omega)
  have hwt : sizes (partsN s) ≤ 5000 * 5000 := by
    have : ∀ l : List ByteArray, (∀ p ∈ l, p.size ≤ 4096) → sizes l ≤ 4097 * l.length := by
      intro l
      induction l with
      | nil => intro _; simp [sizes]
      | cons a l ih =>
        intro h
        have h1 := ih (fun p hp => h p (List.mem_cons_of_mem _ hp))
        have h2 : a.data.size ≤ 4096 := h a List.mem_cons_self
        simp only [sizes, List.map_cons, List.sum_cons, List.length_cons] at h1 ⊢
        omega
    have h1 := this (partsN s) (fun p hp => by have := partsN_mem hp; omega)
    have h2 : 4097 * (partsN s).length ≤ 4097 * 4097 := Nat.mul_le_mul_left _ (by omega)
    omega
  have hpl2 : (partsN s).length ≤ 5000 := by omega
  have hp := parts_any s m w (by omega) hm
  have HP := Lib.hid hp
  have HM := Lib.hid hm
  obtain ⟨ps, hps⟩ : ∃ ps, partsN s = ps := ⟨_, rfl⟩
  rw [hps] at hv HP HPM hwt hpl2
  have Hwt : Hid (True ∧ sizes ps ≤ 5000 * 5000) := ⟨trivial, hwt⟩
  clear hbig hp hm hps hwt hpl
  obtain ⟨i, hi, hz, hsz, hby⟩ := info_parts Tryd.info9
  go_enter Tryd.func41, Tryd.ntmps41
  go_wp2_with fail
  refine HP.out.mono ?_
  rintro e w1 ⟨v, rfl, hmp⟩
  have HMP := Lib.hid hmp
  obtain ⟨B, cb, rfl, -, hBp⟩ := hmp.2.1.form
  obtain ⟨nl, hnl⟩ : ∃ n, ps.length = n := ⟨_, rfl⟩
  have Hnl := Lib.hid hnl
  rw [hnl] at hpl2 hBp
  rw [hnl]
  have HBp := Lib.hid hBp
  clear hmp hnl hBp
  go_wp2_with fail
  go_loopw [4, 13] (fun lv iv wr => ∃ (k : Nat) (A : Option Addr) (n c : Nat) (l : List ByteArray), k ≤ nl ∧ iv = .int .i64 (k : Int) ∧ lv = .slice A n c ∧ n = l.length ∧ n ≤ k ∧ MineS w1 wr (.slice A n c) l ∧ leftF [] ps = leftF l (ps.drop k) ∧ sizes l ≤ sizes (ps.take k)) (fun _ iv _ => nl - (intOf iv).toNat)
  case atStart => exact ⟨0, none, 0, 0, [], Nat.zero_le _, rfl, rfl, rfl, Nat.le_refl _, MineS.nil (Ext.refl _), rfl, Nat.zero_le _⟩
  case round =>
    obtain ⟨k, A, n, c, l, hk, rfl, rfl, hn, hnk, hmi, hf, hsz2⟩ := hrel
    have HMi := Lib.hid hmi
    have Hn := Lib.hid hn
    have HF := Lib.hid hf
    have HS : Hid (True ∧ sizes l ≤ sizes (ps.take k)) := ⟨trivial, hsz2⟩
    have HO : Hid (Own wr 9 1 (.slice A n c) n (l.map Value.string)) := Lib.hid (by have := hmi.2.1; rwa [← hn] at this)
    clear hmi hn hf hsz2
    by_cases hlt : k < nl
    · obtain ⟨p, hp⟩ : ∃ p, ps[k]? = some p := ⟨_, List.getElem?_eq_getElem (by have := Hnl.out; omega)⟩
      obtain ⟨g, off, rfl, hg⟩ := HBp.out (by omega)
      have c0 : wr.cell? ⟨g, off + k, none⟩ = some (.string p) := ((HMi.out.1).cell hg).trans (HMP.out.2.1.cells rfl k _ (by simp [hp]))
      have Hst := Lib.hid (leftF_step hp l)
      have htk : Hid (True ∧ sizes (ps.take (k + 1)) = sizes (ps.take k) + (p.data.size + 1)) := ⟨trivial, by
        obtain ⟨h1, h2⟩ := List.getElem?_eq_some_iff.1 hp
        rw [List.take_succ_eq_append_getElem h1, sizes_app, h2]; simp [sizes]⟩
      have hps5 := HPM.out p (List.mem_of_getElem? hp)
      clear hp
      by_cases h1 : p = dotsB
      · have Hst2 : Hid (leftF [] ps = leftF l.dropLast (ps.drop (k + 1))) := Lib.hid (by rw [HF.out, Hst.out, if_pos h1])
        subst h1
        unfold dotsB at c0
        rcases Nat.eq_zero_or_pos n with hn0 | hn0
        · subst hn0
          have hl0 : Hid (l.dropLast = []) := Lib.hid (by rw [List.eq_nil_of_length_eq_zero Hn.out.symm]; rfl)
          have HN0 : Hid (MineS w1 wr (.slice A 0 c) []) := Lib.hid (by have := HMi.out; rwa [List.eq_nil_of_length_eq_zero Hn.out.symm] at this)
          rcases A with _ | a
          all_goals
            go_wp2_with fail
            go_roundw
            case rel => exact ⟨k + 1, _, 0, c, [], by omega, by go_num, rfl, rfl, Nat.zero_le _, HN0.out, by rw [Hst2.out, hl0.out], Nat.zero_le _⟩
            case measure => simp [intOf]; omega
        · have HN0 : Hid (MineS w1 wr (.slice A (n - 1) c) l.dropLast) := Lib.hid ⟨HMi.out.1, by
            have := HO.out.front (k := n - 1) (by omega)
            rw [List.dropLast_eq_take, ← Hn.out, List.length_take, ← Hn.out, Nat.min_eq_left (by omega)]
            exact this, fun k hk => HMi.out.2.2 k (by cases A <;> exact hk)⟩
          have hnc : n ≤ c := by obtain ⟨_, _, hv, h2, -⟩ := HO.out.form; injection hv with _ _ h3; omega
          obtain ⟨ga, oa, rfl⟩ : ∃ ga oa, A = some ⟨ga, oa, none⟩ := by obtain ⟨A', cap, hv, -, hp⟩ := HO.out.form; injection hv with h1; subst h1; obtain ⟨a, b, h, -⟩ := hp hn0; exact ⟨a, b, h⟩
          have hmx : (((n : Int) - 1).toNat) = n - 1 := by omega
          go_wp2_with fail
          go_roundw
          case rel => exact ⟨k + 1, _, n - 1, c, l.dropLast, by omega, by go_num, by rw [show (max 0 ((n : Int) - 1)).toNat = n - 1 from by omega], by rw [List.length_dropLast, ← Hn.out], by omega, HN0.out, Hst2.out, by rw [htk.out.2]; have := HS.out.2; have := sizes_dropLast l; omega⟩
          case measure => simp [intOf]; omega
      have e1 := dots_ne h1
      have hck := check_any p wr hps5
      have HCk := Lib.hid hck
      clear hck
      cases hnb : nameB p with
      | false =>
        have hval : Hid (cleanN s = (emptyB, 190)) := Lib.hid (by rw [hv.out, HF.out, Hst.out, if_neg h1, hnb]; rfl)
        have hcv : Hid (checkV p = 190) := if_neg (by rw [hnb]; decide)
        clear h1 hnb
        go_wp2_with fail
        refine HCk.out.mono ?_
        rintro e w2 ⟨rfl, hx2⟩
        rw [hcv.out]
        go_wp2_with fail
        go_ret2
        exact CleanPost.of hval.out (HMP.out.1.trans (HMi.out.1.trans hx2))
      | true =>
        have Hst2 : Hid (leftF [] ps = leftF (l ++ [p]) (ps.drop (k + 1))) := Lib.hid (by rw [HF.out, Hst.out, if_neg h1, hnb]; rfl)
        have hcv : Hid (checkV p = 0) := if_pos hnb
        clear h1 hnb
        go_wp2_with fail
        refine HCk.out.mono ?_
        rintro e w2 ⟨rfl, hx2⟩
        rw [hcv.out]
        go_wp2_with (at_builtin; refine wpList_append_own_any _ rfl (.tmp 17) (.tmp 19) 77 rfl 9 i _ 1 16 Tryd.underlying77 hi hz hsz hby rfl (by decide) (.slice A n c) n (l.map Value.string) rfl ((HO.out.ext hx2).ext ((Ext.refl _).alloc _)) (some ⟨w2.heap.size, 0, none⟩) 1 1 ([p].map Value.string) rfl rfl (fun _ => ⟨_, rfl, new_cells _ _ _⟩) (strs_one [p]) (by unfold maxLen; omega) (by omega) ?_)
        intro v' w9 ho hg hv'
        have HN2 := Lib.hid (((HMi.out.ext hx2).ext ((Ext.refl _).alloc _)).push (v' := v') [p] rfl (by rw [← Hn.out]; exact ho) hg (by simpa using hv'))
        obtain ⟨A', c', rfl, -, -⟩ := ho.form
        clear ho hg hv' hx2
        go_wp2_with fail
        go_roundw
        case rel => exact ⟨k + 1, A', n + 1, c', l ++ [p], by omega, by go_num, rfl, by simp [Hn.out], by omega, HN2.out, Hst2.out, by rw [htk.out.2, sizes_app]; have := HS.out.2; simp [sizes] at this ⊢; omega⟩
        case measure => simp [intOf]; omega
    · have hkn : k = nl := by omega
      have hval : Hid (cleanN s = (joinB l, 0)) := Lib.hid (by rw [hv.out, HF.out, hkn, ← Hnl.out, List.drop_length]; rfl)
      have HSz : Hid (True ∧ sizes l ≤ 25000000) := ⟨trivial, by have := HS.out.2; rw [hkn, ← Hnl.out, List.take_length] at this; have := Hwt.out.2; omega⟩
      clear hkn
      rcases A with _ | ⟨ga, oa, sp⟩
      · obtain ⟨hn0, hc0⟩ : n = 0 ∧ c = 0 := by
          rcases HO.out.2 with ⟨h1, h2⟩ | ⟨_, _, _, _, h1, -⟩
          · injection h1 with _ _ h3; exact ⟨h2, h3⟩
          · cases h1
        subst hn0 hc0
        have hl0 : Hid (joinB l = emptyB) := Lib.hid (by rw [List.eq_nil_of_length_eq_zero Hn.out.symm]; rfl)
        go_wp2_with fail
        refine (join_nil _ _).mono ?_
        rintro e w2 ⟨rfl, rfl⟩
        go_wp2_with fail
        go_ret2
        exact CleanPost.of (by rw [hval.out, hl0.out]) (HMP.out.1.trans HMi.out.1)
      · have hsp : sp = none ∧ ga < wr.heap.size ∧ n ≤ c := by
          rcases HO.out.2 with ⟨h1, h2⟩ | ⟨g', off', cap, cur, h1, h2, h3, -⟩
          · cases h1
          · injection h1 with h4 h5 h6
            injection h4 with h4
            injection h4 with h7 h8 h9
            exact ⟨h9, h7 ▸ (Array.getElem?_eq_some_iff.1 h2).1, h6 ▸ h3⟩
        obtain ⟨rfl, hga, hnc⟩ := hsp
        have hj := Tryd.strings_Join ga oa c l ⟨#[47]⟩ wr (fun j x hx => HO.out.cells rfl j _ (by simp [hx])) hga (by have := Hn.out; omega) (by have := Hn.out; omega) (by have := join_len l; have := HSz.out.2; show (Lib.join (l.map (·.data.toList)) [47]).length ≤ _; omega)
        have Hj := Lib.hid hj
        clear hj
        go_wp2_with fail
        rw [Hn.out]
        refine Hj.out.mono ?_
        rintro e w2 ⟨rfl, hb⟩
        go_wp2_with fail
        go_ret2
        exact CleanPost.of hval.out (HMP.out.1.trans (HMi.out.1.trans (Ext.of_below hb)))
end Go.Proofs.YtcpnnkkfndgpjaaDoor
