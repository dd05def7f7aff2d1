/- The document's paths: Joined, Clean; the test of an item's path. -/
import Derived.Test.YtcpnnkkfndgpjaaDoorDC
namespace Go.Proofs.YtcpnnkkfndgpjaaDoor
open Go.RowKit

theorem joinB_nil : joinB [] = emptyB := rfl
theorem mkB_app (a b : List UInt8) : mkB (a ++ b) = mkB a ++ mkB b := by
  have : (mkB a ++ mkB b).data.toList = a ++ b := by rw [ByteArray.data_append]; simp [mkB]
  rw [← mkB_data (mkB a ++ mkB b), this]
theorem joinB_more (l : List ByteArray) (x : ByteArray) (h : l ≠ []) : joinB (l ++ [x]) = joinB l ++ ⟨#[47]⟩ ++ x := by
  rw [joinB_snoc l x h, mkB_app, mkB_app, mkB_data, mkB_data]
  rfl
theorem joinB_first (x : ByteArray) : joinB ([] ++ [x]) = ⟨#[]⟩ ++ x := by
  rw [List.nil_append, joinB_one]
  have : ((⟨#[]⟩ : ByteArray) ++ x).data.toList = x.data.toList := by rw [ByteArray.data_append]; simp
  rw [← mkB_data (⟨#[]⟩ ++ x), this, mkB_data]
theorem ret_str {a b : ByteArray} (h : a = b) : Ending.returned (.string a) = .returned (.string b) := by rw [h]
set_option maxRecDepth 20000 in
theorem joined_any (A : Option Addr) (n c : Nat) (l : List ByteArray) (w : World) (hl : Own w 9 1 (.slice A n c) n (l.map Value.string)) (hs : sizes l ≤ 25000000) :
    Calls Tryd.prog 55 #[.slice A n c] w fun e w' => e = .returned (.string (joinB l)) ∧ w = w' := by
  have HS : Hid (True ∧ sizes l ≤ 25000000) := ⟨trivial, hs⟩
  clear hs
  have HO := Lib.hid hl
  have hn : n = l.length := by have := hl.1; simpa using this.symm
  have Hn := Lib.hid hn
  have hn5 : n ≤ 25000000 := by have h1 := length_weight l; have h2 : weight l = sizes l := rfl; have := HS.out.2; omega
  have hf := hl.form
  clear hl hn
  obtain ⟨A', c', hv, -, hA⟩ := hf
  injection hv with h1 h2 h3
  subst h1 h3
  have HA := Lib.hid hA
  clear hA
  go_enter Tryd.func55, Tryd.ntmps55
  go_wp2_with fail
  go_loop [3, 4] (fun sv iv => ∃ k : Nat, k ≤ n ∧ iv = .int .i64 (k : Int) ∧ sv = .string (joinB (l.take k))) (fun _ iv => n - (intOf iv).toNat)
  case atStart => exact ⟨0, Nat.zero_le _, rfl, rfl⟩
  case round =>
    obtain ⟨k, hk, rfl, rfl⟩ := hrel
    by_cases hlt : k < n
    · obtain ⟨p, hp⟩ : ∃ p, l[k]? = some p := ⟨_, List.getElem?_eq_getElem (by have := Hn.out; omega)⟩
      obtain ⟨g, off, rfl, hg⟩ := HA.out (by omega)
      have c0 : w.cell? ⟨g, off + k, none⟩ = some (.string p) := HO.out.cells rfl k _ (by simp [hp])
      have htk : Hid (l.take (k + 1) = l.take k ++ [p]) := Lib.hid (by
        obtain ⟨h1, h2⟩ := List.getElem?_eq_some_iff.1 hp
        rw [List.take_succ_eq_append_getElem h1, h2])
      have hlk : Hid (0 < k → l.take k ≠ []) := Lib.hid (fun h0 e => by have := congrArg List.length e; rw [List.length_take, ← Hn.out] at this; simp at this; omega)
      obtain ⟨J, hJ⟩ : ∃ J, joinB (l.take k) = J := ⟨_, rfl⟩
      have HJ := Lib.hid hJ
      rw [hJ]
      have hjs : J.size + 1 + p.size ≤ 25000000 := by
        have h1 := join_len (l.take k)
        have h2 : J.size = (Lib.join ((l.take k).map (·.data.toList)) [47]).length := by rw [← hJ]; show ((Lib.join ((l.take k).map (·.data.toList)) [47]).toArray).size = _; simp
        have h3 : sizes (l.take (k + 1)) ≤ sizes l := by
          conv => rhs; rw [← List.take_append_drop (k + 1) l]
          rw [sizes_app]; omega
        rw [htk.out, sizes_app] at h3
        have h4 : sizes [p] = p.size + 1 := by simp [sizes]
        have := HS.out.2
        omega
      clear hp hJ
      rcases Nat.eq_zero_or_pos k with h0 | h0
      · subst h0
        rw [Nat.add_zero] at c0
        have HJ2 : Hid (J ++ p = joinB (l.take (0 + 1))) := Lib.hid (by rw [htk.out, ← HJ.out, List.take_zero, joinB_first]; rfl)
        go_wp2_with fail
        go_round
        case rel => exact ⟨0 + 1, by omega, by go_num, by rw [HJ2.out]⟩
        case measure => first | (simp [intOf]; done) | (simp [intOf]; omega)
      · have HJ2 : Hid (J ++ ⟨#[47]⟩ ++ p = joinB (l.take (k + 1))) := Lib.hid (by rw [htk.out, joinB_more _ _ (hlk.out h0), HJ.out])
        have h0' : (0 : Int) < (k : Int) := by omega
        go_wp2_with fail
        go_round
        case rel => exact ⟨k + 1, by omega, by go_num, by rw [HJ2.out]⟩
        case measure => first | (simp [intOf]; done) | (simp [intOf]; omega)
    · have hkn : k = n := by omega
      have He : Hid (joinB (l.take k) = joinB l) := Lib.hid (by rw [hkn, Hn.out, List.take_length])
      clear hkn
      obtain ⟨J, hJ⟩ : ∃ J, joinB (l.take k) = J := ⟨_, rfl⟩
      rw [hJ] at He ⊢
      clear hJ
      go_wp2_with fail
      go_ret
      exact ⟨ret_str He.out, rfl⟩
def goodP (p : ByteArray) : Prop := p = dotsB ∨ nameB p = true
set_option maxRecDepth 20000 in
set_option maxHeartbeats 2000000 in
theorem rclean_any (s : ByteArray) (w : World) (hs : s.size ≤ 1073741824) :
    Calls Tryd.prog 42 #[.string s] w (CleanPost s w) := by
  by_cases hbig : 4096 < s.size
  · have hv : Hid (cleanN s = (emptyB, 3)) := if_pos hbig
    have hb2 : (4096 : Int) < (s.size : Int) := by omega
    go_enter Tryd.func42, Tryd.ntmps42
    go_wp2_with fail
    go_ret2
    exact CleanPost.of hv.out (Ext.refl _)
  have hb2 : ¬ ((4096 : Int) < (s.size : Int)) := by omega
  have hv : Hid (cleanN s = match leftF [] (partsN s) with | none => (emptyB, 190) | some l => (joinB l, 0)) := if_neg hbig
  have hpl := partsN_len s
  have HPM : Hid (∀ p ∈ partsN s, p.size ≤ 5000) := Lib.hid (fun p hp => by have := partsN_mem hp; omega)
  have hpl2 : (partsN s).length ≤ 5000 := by omega
  have hwt : sizes (partsN s) ≤ 5000 * 5000 := by
    have : ∀ l : List ByteArray, (∀ p ∈ l, p.size ≤ 4096) → sizes l ≤ 4097 * l.length := by
      intro l
      induction l with
      | nil => intro _; simp [sizes]
      | cons a l ih =>
        intro h
        have h1 := ih (fun p hp => h p (List.mem_cons_of_mem _ hp))
        have h2 : a.data.size ≤ 4096 := h a List.mem_cons_self
        simp only [sizes, List.map_cons, List.sum_cons, List.length_cons] at h1 ⊢
        omega
    have h1 := this (partsN s) (fun p hp => by have := partsN_mem hp; omega)
    have h2 : 4097 * (partsN s).length ≤ 4097 * 4097 := Nat.mul_le_mul_left _ (by omega)
    omega
  have hp := rparts_any s w (by omega)
  have HP := Lib.hid hp
  obtain ⟨ps, hps⟩ : ∃ ps, partsN s = ps := ⟨_, rfl⟩
  rw [hps] at hv HP HPM hpl2 hwt
  have Hwt : Hid (True ∧ sizes ps ≤ 5000 * 5000) := ⟨trivial, hwt⟩
  clear hbig hp hps hpl hwt
  obtain ⟨i, hi, hz, hsz, hby⟩ := info_parts Tryd.info9
  go_enter Tryd.func42, Tryd.ntmps42
  go_wp2_with fail
  refine HP.out.mono ?_
  rintro e w1 ⟨v, rfl, hmp⟩
  have HMP := Lib.hid hmp
  obtain ⟨B, cb, rfl, -, hBp⟩ := hmp.2.1.form
  obtain ⟨nl, hnl⟩ : ∃ n, ps.length = n := ⟨_, rfl⟩
  have Hnl := Lib.hid hnl
  rw [hnl] at hpl2 hBp
  rw [hnl]
  have HBp := Lib.hid hBp
  clear hmp hnl hBp
  go_wp2_with fail
  go_loop [5] (fun iv => ∃ k : Nat, k ≤ nl ∧ iv = .int .i64 (k : Int) ∧ ∀ j p, j < k → ps[j]? = some p → goodP p) (fun iv => nl - (intOf iv).toNat)
  case atStart => exact ⟨0, Nat.zero_le _, rfl, fun j p h => absurd h (by omega)⟩
  case round =>
    obtain ⟨k, hk, rfl, hgd⟩ := hrel
    have HG := Lib.hid hgd
    clear hgd
    by_cases hlt : k < nl
    · obtain ⟨p, hp⟩ : ∃ p, ps[k]? = some p := ⟨_, List.getElem?_eq_getElem (by have := Hnl.out; omega)⟩
      obtain ⟨g, off, rfl, hg⟩ := HBp.out (by omega)
      have c0 : w1.cell? ⟨g, off + k, none⟩ = some (.string p) := HMP.out.2.1.cells rfl k _ (by simp [hp])
      have Hp := Lib.hid hp
      have hps5 := HPM.out p (List.mem_of_getElem? hp)
      have hck := rcheck_any p w1 hps5
      have HCk := Lib.hid hck
      clear hck hp
      cases hnb : nameB p with
      | true =>
        have hcv : Hid (checkV p = 0) := if_pos hnb
        have HG2 : Hid (∀ j p, j < k + 1 → ps[j]? = some p → goodP p) := Lib.hid (fun j q hj hq => by
          rcases Nat.lt_or_ge j k with h | h
          · exact HG.out j q h hq
          · obtain rfl : j = k := by omega
            rw [Hp.out] at hq; cases hq
            exact .inr hnb)
        clear hnb
        go_wp2_with fail
        refine HCk.out.mono ?_
        rintro e w2 ⟨rfl, rfl⟩
        rw [hcv.out]
        go_wp2_with fail
        go_round
        case rel => exact ⟨k + 1, by omega, by go_num, HG2.out⟩
        case measure => first | (simp [intOf]; done) | (simp [intOf]; omega)
      | false =>
        have hcv : Hid (checkV p = 190) := if_neg (by rw [hnb]; decide)
        by_cases hd : p = dotsB
        · have HG2 : Hid (∀ j p, j < k + 1 → ps[j]? = some p → goodP p) := Lib.hid (fun j q hj hq => by
            rcases Nat.lt_or_ge j k with h | h
            · exact HG.out j q h hq
            · obtain rfl : j = k := by omega
              rw [Hp.out] at hq; cases hq
              exact .inl hd)
          have c1 : w1.cell? ⟨g, off + k, none⟩ = some (.string ⟨#[46, 46]⟩) := by rw [c0, hd]; rfl
          have HCk2 : Hid (Calls Tryd.prog 54 #[.string ⟨#[46, 46]⟩] w1 fun e w' => e = .returned (.int .i64 190) ∧ w1 = w') := Lib.hid (by have := HCk.out; rw [hcv.out, hd] at this; exact this)
          clear hnb hd c0 hcv HCk hps5 Hp
          go_wp2_with fail
          refine HCk2.out.mono ?_
          rintro e w2 ⟨rfl, rfl⟩
          go_wp2_with fail
          go_round
          case rel => exact ⟨k + 1, by omega, by go_num, HG2.out⟩
          case measure => first | (simp [intOf]; done) | (simp [intOf]; omega)
        · have e1 := dots_ne hd
          have hval : Hid (cleanN s = (emptyB, 190)) := Lib.hid (by rw [hv.out, leftF_none ps [] p (List.mem_of_getElem? Hp.out) hd hnb])
          clear hnb hd
          go_wp2_with fail
          refine HCk.out.mono ?_
          rintro e w2 ⟨rfl, rfl⟩
          rw [hcv.out]
          go_wp2_with fail
          go_ret2
          exact CleanPost.of hval.out HMP.out.1
    · have HGD : Hid (∀ p ∈ ps, goodP p) := Lib.hid (fun p hp => by
        obtain ⟨j, hj, e⟩ := List.getElem_of_mem hp
        exact HG.out j p (by have := Hnl.out; omega) (by rw [List.getElem?_eq_getElem hj, e]))
      clear HG
      go_wp2_with fail
      go_loopw [7, 8] (fun lv iv wr => ∃ (k : Nat) (A : Option Addr) (n c : Nat) (l : List ByteArray), k ≤ nl ∧ iv = .int .i64 (k : Int) ∧ lv = .slice A n c ∧ n = l.length ∧ n ≤ k ∧ MineS w1 wr (.slice A n c) l ∧ leftF [] ps = leftF l (ps.drop k) ∧ sizes l ≤ sizes (ps.take k)) (fun _ iv _ => nl - (intOf iv).toNat)
      case atStart => exact ⟨0, none, 0, 0, [], Nat.zero_le _, rfl, rfl, rfl, Nat.le_refl _, MineS.nil (Ext.refl _), rfl, Nat.zero_le _⟩
      case round =>
        obtain ⟨k, A, n, c, l, hk, rfl, rfl, hn, hnk, hmi, hf, hsz2⟩ := hrel
        have HS : Hid (True ∧ sizes l ≤ sizes (ps.take k)) := ⟨trivial, hsz2⟩
        clear hsz2
        have HMi := Lib.hid hmi
        have Hn := Lib.hid hn
        have HF := Lib.hid hf
        have HO : Hid (Own wr 9 1 (.slice A n c) n (l.map Value.string)) := Lib.hid (by have := hmi.2.1; rwa [← hn] at this)
        clear hmi hn hf
        by_cases hlt : k < nl
        · obtain ⟨p, hp⟩ : ∃ p, ps[k]? = some p := ⟨_, List.getElem?_eq_getElem (by have := Hnl.out; omega)⟩
          obtain ⟨g, off, rfl, hg⟩ := HBp.out (by omega)
          have c0 : ∀ wx, Ext wr wx → wx.cell? ⟨g, off + k, none⟩ = some (.string p) := fun wx hx => ((HMi.out.1.trans hx).cell hg).trans (HMP.out.2.1.cells rfl k _ (by simp [hp]))
          have Hst := Lib.hid (leftF_step hp l)
          have htk : Hid (True ∧ sizes (ps.take (k + 1)) = sizes (ps.take k) + (p.data.size + 1)) := ⟨trivial, by
            obtain ⟨h1, h2⟩ := List.getElem?_eq_some_iff.1 hp
            rw [List.take_succ_eq_append_getElem h1, sizes_app, h2]; simp [sizes]⟩
          have Hgp := Lib.hid (HGD.out p (List.mem_of_getElem? hp))
          clear hp
          by_cases h1 : p = dotsB
          · have Hst2 : Hid (leftF [] ps = leftF l.dropLast (ps.drop (k + 1))) := Lib.hid (by rw [HF.out, Hst.out, if_pos h1])
            subst h1
            unfold dotsB at c0
            have c1 := c0 _ (Ext.refl _)
            clear c0
            rcases Nat.eq_zero_or_pos n with hn0 | hn0
            · subst hn0
              have hl0 : Hid (l.dropLast = []) := Lib.hid (by rw [List.eq_nil_of_length_eq_zero Hn.out.symm]; rfl)
              have HN0 : Hid (MineS w1 wr (.slice A 0 c) []) := Lib.hid (by have := HMi.out; rwa [List.eq_nil_of_length_eq_zero Hn.out.symm] at this)
              go_wp2_with fail
              go_roundw
              case rel => exact ⟨k + 1, _, 0, c, [], by omega, by go_num, rfl, rfl, Nat.zero_le _, HN0.out, by rw [Hst2.out, hl0.out], Nat.zero_le _⟩
              case measure => first | (simp [intOf]; done) | (simp [intOf]; omega)
            · have HN0 : Hid (MineS w1 wr (.slice A (n - 1) c) l.dropLast) := Lib.hid ⟨HMi.out.1, by
                have := HO.out.front (k := n - 1) (by omega)
                rw [List.dropLast_eq_take, ← Hn.out, List.length_take, ← Hn.out, Nat.min_eq_left (by omega)]
                exact this, fun k hk => HMi.out.2.2 k (by cases A <;> exact hk)⟩
              have hnc : n ≤ c := by obtain ⟨_, _, hv, h2, -⟩ := HO.out.form; injection hv with _ _ h3; omega
              obtain ⟨ga, oa, rfl⟩ : ∃ ga oa, A = some ⟨ga, oa, none⟩ := by obtain ⟨A', cap, hv, -, hp⟩ := HO.out.form; injection hv with h1; subst h1; obtain ⟨a, b, h, -⟩ := hp hn0; exact ⟨a, b, h⟩
              have hn0' : (0 : Int) < (n : Int) := by omega
              have hmx : (((n : Int) - 1).toNat) = n - 1 := by omega
              go_wp2_with fail
              go_roundw
              case rel => exact ⟨k + 1, _, n - 1, c, l.dropLast, by omega, by go_num, by first | rfl | rw [hmx], by rw [List.length_dropLast, ← Hn.out], by omega, HN0.out, Hst2.out, by rw [htk.out.2]; have := HS.out.2; have := sizes_dropLast l; omega⟩
              case measure => first | (simp [intOf]; done) | (simp [intOf]; omega)
          have e1 := dots_ne h1
          have hnb : nameB p = true := by rcases Hgp.out with h | h; exact absurd h h1; exact h
          have Hst2 : Hid (leftF [] ps = leftF (l ++ [p]) (ps.drop (k + 1))) := Lib.hid (by rw [HF.out, Hst.out, if_neg h1, if_pos hnb])
          have c1 := c0 _ (Ext.refl _)
          clear h1 hnb
          go_wp2_with (at_builtin; refine wpList_append_own_any _ rfl (.tmp 45) (.tmp 50) 77 rfl 9 i _ 1 16 Tryd.underlying77 hi hz hsz hby rfl (by decide) (.slice A n c) n (l.map Value.string) rfl (HO.out.ext ((Ext.refl _).alloc _)) (some ⟨wr.heap.size, 0, none⟩) 1 1 ([p].map Value.string) rfl rfl (fun _ => ⟨_, rfl, new_cells _ _ _⟩) (strs_one [p]) (by unfold maxLen; omega) (by omega) ?_)
          intro v' w9 ho hg hv'
          have HN2 := Lib.hid ((HMi.out.ext ((Ext.refl _).alloc _)).push (v' := v') [p] rfl (by rw [← Hn.out]; exact ho) hg (by simpa using hv'))
          obtain ⟨A', c', rfl, -, -⟩ := ho.form
          clear ho hg hv' c0 c1
          go_wp2_with fail
          go_roundw
          case rel => exact ⟨k + 1, A', n + 1, c', l ++ [p], by omega, by go_num, rfl, by simp [Hn.out], by omega, HN2.out, Hst2.out, by rw [htk.out.2, sizes_app]; have := HS.out.2; simp [sizes] at this ⊢; omega⟩
          case measure => first | (simp [intOf]; done) | (simp [intOf]; omega)
        · have hkn : k = nl := by omega
          have hval : Hid (cleanN s = (joinB l, 0)) := Lib.hid (by rw [hv.out, HF.out, hkn, ← Hnl.out, List.drop_length]; rfl)
          have HSz : Hid (True ∧ sizes l ≤ 25000000) := ⟨trivial, by have := HS.out.2; rw [hkn, ← Hnl.out, List.take_length] at this; have := Hwt.out.2; omega⟩
          clear hkn
          go_wp2_with fail
          refine (joined_any A n c l wr HO.out HSz.out.2).mono ?_
          rintro e w2 ⟨rfl, rfl⟩
          go_wp2_with fail
          go_ret2
          exact CleanPost.of hval.out (HMP.out.1.trans HMi.out.1)
set_option maxRecDepth 20000 in
theorem rclean_ok (p : Bs) (w : World) (hs : p.length ≤ 1073741824) :
    Calls Tryd.prog 31 #[.string (mkB p)] w fun e w' => e = .returned (.bool (okC p)) ∧ Ext w w' := by
  have hsz : (mkB p).size = p.length := by show p.toArray.size = _; simp
  have hc := rclean_any (mkB p) w (by omega)
  obtain ⟨s, hs'⟩ : ∃ s, mkB p = s := ⟨_, rfl⟩
  have hok : okC p = (decide (s ≠ emptyB) && decide (cleanN s = (s, 0))) := by rw [← hs']; rfl
  rw [hs'] at hc ⊢
  obtain ⟨⟨t, z⟩, htz⟩ : ∃ q, cleanN s = q := ⟨_, rfl⟩
  rw [htz] at hok
  have HC := Lib.hid hc
  have Htz := Lib.hid htz
  have Hok := Lib.hid hok
  clear hc htz hs hsz hs' hok
  by_cases h1 : s = emptyB
  · have hv : Hid (okC p = false) := Lib.hid (by rw [Hok.out, decide_eq_false (by simp [h1])]; rfl)
    have h2 : s.toList.isEmpty = true := by rw [h1, Lib.toList_data]; rfl
    clear h1
    go_enter Tryd.func31, Tryd.ntmps31
    go_wp2_with fail
    refine HC.out.mono ?_
    rintro e w1 ⟨rfl, hx⟩
    rw [Htz.out]
    go_wp2_with fail
    go_ret
    exact ⟨ret_bool hv.out.symm, hx⟩
  have e1 := empty_ne h1
  have H1 := Lib.hid h1
  clear h1
  by_cases h2 : z = 0
  · subst h2
    by_cases h3 : t = s
    · have h4 : (t.toList == s.toList) = true := by rw [h3]; simp
      have hv : Hid (okC p = true) := Lib.hid (by rw [Hok.out, decide_eq_true H1.out, decide_eq_true (by rw [h3])]; rfl)
      clear h3
      go_enter Tryd.func31, Tryd.ntmps31
      go_wp2_with fail
      refine HC.out.mono ?_
      rintro e w1 ⟨rfl, hx⟩
      rw [Htz.out]
      go_wp2_with fail
      go_ret
      exact ⟨ret_bool hv.out.symm, hx⟩
    · have h4 := str_ne h3
      have hv : Hid (okC p = false) := Lib.hid (by rw [Hok.out, decide_eq_true H1.out, decide_eq_false (fun e => h3 (by injection e))]; rfl)
      clear h3
      go_enter Tryd.func31, Tryd.ntmps31
      go_wp2_with fail
      refine HC.out.mono ?_
      rintro e w1 ⟨rfl, hx⟩
      rw [Htz.out]
      go_wp2_with fail
      go_ret
      exact ⟨ret_bool hv.out.symm, hx⟩
  · have h4 : (z == 0) = false := beq_eq_false_iff_ne.2 h2
    have hv : Hid (okC p = false) := Lib.hid (by rw [Hok.out, decide_eq_true H1.out, decide_eq_false (fun e => h2 (by injection e))]; rfl)
    clear h2
    go_enter Tryd.func31, Tryd.ntmps31
    go_wp2_with fail
    refine HC.out.mono ?_
    rintro e w1 ⟨rfl, hx⟩
    rw [Htz.out]
    go_wp2_with fail
    go_ret
    exact ⟨ret_bool hv.out.symm, hx⟩
end Go.Proofs.YtcpnnkkfndgpjaaDoor
