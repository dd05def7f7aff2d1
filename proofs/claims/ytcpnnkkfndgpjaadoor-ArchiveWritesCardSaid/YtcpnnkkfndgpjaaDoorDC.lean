/- The document's paths: Name, Check, Parts, Joined. -/
import Derived.Test.YtcpnnkkfndgpjaaDoorDA
namespace Go.Proofs.YtcpnnkkfndgpjaaDoor
open Go.RowKit

theorem size_data (s : ByteArray) : s.data.toList.length = s.size := by show s.data.toList.length = s.data.size; simp
theorem idx_str {s : ByteArray} {k : Nat} {c : UInt8} (h : s.data.toList[k]? = some c) (wx : World) : (Instr.index 9 (.string s) (.int .i64 (k : Int))).run Tryd.prog wx = .ok (.int .u8 (c.toNat : Int)) wx := by
  obtain ⟨h1, h2⟩ := List.getElem?_eq_some_iff.1 h
  have hs := size_data s
  rw [run_index_string (P := Tryd.prog) (w := wx) 9 s .i64 (k : Int) Tryd.underlying9, dif_pos ⟨by omega, by omega⟩]
  have e : s[((k : Int)).toNat]'(by omega) = c := by rw [← h2]; simp [ByteArray.getElem_eq_getElem_data]
  rw [e]
theorem cut_str {s : ByteArray} {f i : Nat} (h1 : f ≤ i) (h2 : i ≤ s.size) (wx : World) : (Instr.slice 9 (.string s) (some (.int .i64 (f : Int))) (some (.int .i64 (i : Int))) none).run Tryd.prog wx = .ok (.string (mkB ((s.data.toList.drop f).take (i - f)))) wx := by
  rw [run_slice_string (P := Tryd.prog) wx 9 s .i64 .i64 (f : Int) (i : Int) Tryd.underlying9 (by omega) (by omega) (by omega)]
  have e : s.extract ((f : Int)).toNat ((i : Int)).toNat = mkB ((s.data.toList.drop f).take (i - f)) := by
    rw [Int.toNat_natCast, Int.toNat_natCast, ← mkB_data (s.extract f i)]
    congr 1
    rw [ByteArray.data_extract, Array.toList_extract, List.extract_eq_take_drop]
  rw [e]
def cleanTo (s : ByteArray) (k : Nat) : Prop := ∀ j c, j < k → s.data.toList[j]? = some c → (c == 47 || c == 0) = false
theorem any_false {s : ByteArray} (h : cleanTo s s.size) : (s.data.toList.any fun c => c == 47 || c == 0) = false := by
  rw [List.any_eq_false]
  intro c hc
  obtain ⟨j, hj, e⟩ := List.getElem_of_mem hc
  have := h j c (by rw [← size_data]; exact hj) (by rw [List.getElem?_eq_getElem hj, e])
  simpa using this
theorem any_true {s : ByteArray} {j : Nat} {c : UInt8} (h : s.data.toList[j]? = some c) (hc : (c == 47 || c == 0) = true) : (s.data.toList.any fun c => c == 47 || c == 0) = true := by
  rw [List.any_eq_true]
  exact ⟨c, List.mem_of_getElem? h, hc⟩
theorem ne47 {c : UInt8} (h : c ≠ 47) : ((c.toNat : Int) == 47) = false := beq_eq_false_iff_ne.2 (fun e => h (UInt8.toNat_inj.1 (by
  have h2 : c.toNat = 47 := by omega
  rw [h2]; rfl)))
set_option maxRecDepth 20000 in
theorem rname_any (s : ByteArray) (w : World) (hs : s.size ≤ 5000) :
    Calls Tryd.prog 62 #[.string s] w fun e w' => e = .returned (.bool (nameB s)) ∧ w = w' := by
  by_cases h1 : s = emptyB
  · subst h1
    have hv : Hid (nameB emptyB = false) := Lib.hid (by decide)
    unfold emptyB
    go_enter Tryd.func62, Tryd.ntmps62
    go_wp2_with fail
    go_ret
    exact ⟨ret_bool hv.out.symm, rfl⟩
  have hz : s.size ≠ 0 := fun e => h1 (by
    rw [← mkB_data s, List.eq_nil_of_length_eq_zero ((size_data s).trans e)]; rfl)
  by_cases h2 : s.size ≤ 64
  · have h2' : ¬ ((64 : Int) < (s.size : Int)) := by omega
    by_cases h3 : s = dotB
    · subst h3
      have hv : Hid (nameB dotB = false) := Lib.hid (by decide)
      unfold dotB at *
      go_enter Tryd.func62, Tryd.ntmps62
      go_wp2_with fail
      go_ret
      exact ⟨ret_bool hv.out.symm, rfl⟩
    have e3 := dot_ne h3
    by_cases h4 : s = dotsB
    · subst h4
      have hv : Hid (nameB dotsB = false) := Lib.hid (by decide)
      unfold dotsB at *
      go_enter Tryd.func62, Tryd.ntmps62
      go_wp2_with fail
      go_ret
      exact ⟨ret_bool hv.out.symm, rfl⟩
    have e4 := dots_ne h4
    have hnb : Hid (nameB s = !(s.data.toList.any fun c => c == 47 || c == 0)) := Lib.hid (by
      unfold nameB
      rw [decide_eq_true h1, decide_eq_true h2, decide_eq_true h3, decide_eq_true h4]
      rfl)
    have hz1 : ((s.size : Int) == 0) = false := beq_eq_false_iff_ne.2 (by omega)
    clear h1 h2 h3 h4
    go_enter Tryd.func62, Tryd.ntmps62
    go_wp2_with fail
    go_loop [3] (fun iv => ∃ k : Nat, k ≤ s.size ∧ iv = .int .i64 (k : Int) ∧ cleanTo s k) (fun iv => s.size - (intOf iv).toNat)
    case atStart => exact ⟨0, Nat.zero_le _, rfl, fun j c h => absurd h (by omega)⟩
    case round =>
      obtain ⟨k, hk, rfl, hcl⟩ := hrel
      have Hcl := Lib.hid hcl
      clear hcl
      by_cases hlt : k < s.size
      · obtain ⟨c, hc⟩ : ∃ c, s.data.toList[k]? = some c := ⟨_, List.getElem?_eq_getElem (by rw [size_data]; exact hlt)⟩
        have Hc := Lib.hid hc
        have hix := idx_str hc
        clear hc
        by_cases hc0 : c = 0
        · have hv : Hid (nameB s = false) := Lib.hid (by rw [hnb.out, any_true Hc.out (by rw [hc0]; rfl)]; rfl)
          subst hc0
          go_wp2_with fail
          go_ret
          exact ⟨ret_bool hv.out.symm, rfl⟩
        have b0 : ((c.toNat : Int) == 0) = false := beq_eq_false_iff_ne.2 (fun e => hc0 (UInt8.toNat_inj.1 (by simpa using e)))
        by_cases hc4 : c = 47
        · have hv : Hid (nameB s = false) := Lib.hid (by rw [hnb.out, any_true Hc.out (by rw [hc4]; rfl)]; rfl)
          subst hc4
          go_wp2_with fail
          go_ret
          exact ⟨ret_bool hv.out.symm, rfl⟩
        have b4 := ne47 hc4
        have Hcl2 : Hid (cleanTo s (k + 1)) := Lib.hid (fun j d hj hd => by
          rcases Nat.lt_or_ge j k with h | h
          · exact Hcl.out j d h hd
          · obtain rfl : j = k := by omega
            rw [Hc.out] at hd
            cases hd
            simp [hc0, hc4])
        clear hc0 hc4
        go_wp2_with fail
        go_round
        case rel => exact ⟨k + 1, by omega, by go_num, Hcl2.out⟩
        case measure => first | (simp [intOf]; done) | (simp [intOf]; omega)
      · have hkn : k = s.size := by omega
        have hv : Hid (nameB s = true) := Lib.hid (by rw [hnb.out, any_false (by rw [← hkn]; exact Hcl.out)]; rfl)
        clear hkn
        go_wp2_with fail
        go_ret
        exact ⟨ret_bool hv.out.symm, rfl⟩
  · have hv : Hid (nameB s = false) := Lib.hid (by unfold nameB; rw [decide_eq_false h2]; simp)
    have h2' : (64 : Int) < (s.size : Int) := by omega
    have hz1 : ((s.size : Int) == 0) = false := beq_eq_false_iff_ne.2 (by omega)
    go_enter Tryd.func62, Tryd.ntmps62
    go_wp2_with fail
    go_ret
    exact ⟨ret_bool hv.out.symm, rfl⟩
set_option maxRecDepth 20000 in
theorem rcheck_any (s : ByteArray) (w : World) (hs : s.size ≤ 5000) :
    Calls Tryd.prog 54 #[.string s] w fun e w' => e = .returned (.int .i64 (checkV s)) ∧ w = w' := by
  have hn := rname_any s w hs
  cases hb : nameB s
  all_goals
    rw [hb] at hn
    have HN := Lib.hid hn
    have hv : Hid (checkV s = if nameB s = true then 0 else 190) := Lib.hid rfl
    rw [hb] at hv
    clear hn hb
    go_enter Tryd.func54, Tryd.ntmps54
    go_wp2_with fail
    refine HN.out.mono ?_
    rintro e w1 ⟨rfl, rfl⟩
    go_wp2_with fail
    go_ret
    exact ⟨ret_i (by rw [hv.out]; rfl), rfl⟩
set_option maxRecDepth 20000 in
set_option maxHeartbeats 1000000 in
theorem rparts_any (s : ByteArray) (w : World) (hs : s.size ≤ 5000) :
    Calls Tryd.prog 53 #[.string s] w fun e w' => ∃ v, e = .returned v ∧ MineS w w' v (partsN s) := by
  obtain ⟨P, hP⟩ : ∃ P, partsN s = P := ⟨_, rfl⟩
  have HP := Lib.hid hP
  have HPF : Hid (partsF s.data.toList = P) := Lib.hid (by rw [← hP]; rfl)
  rw [hP]
  clear hP
  obtain ⟨i, hi, hz, hsz, hby⟩ := info_parts Tryd.info9
  go_enter Tryd.func53, Tryd.ntmps53
  go_wp2_with fail
  go_loopw [3, 4, 5] (fun lv fv iv wr => ∃ (k f : Nat) (A : Option Addr) (n c : Nat) (l : List ByteArray), k ≤ s.size + 1 ∧ iv = .int .i64 (k : Int) ∧ fv = .int .i64 (f : Int) ∧ f ≤ k ∧ lv = .slice A n c ∧ n = l.length ∧ n ≤ k ∧ MineS w wr (.slice A n c) l ∧
    ((k ≤ s.size ∧ NoStroke s.data.toList f k ∧ l ++ partsF (s.data.toList.drop f) = P) ∨ (k = s.size + 1 ∧ l = P))) (fun _ _ iv _ => s.size + 1 - (intOf iv).toNat)
  case atStart => exact ⟨0, 0, none, 0, 0, [], Nat.zero_le _, rfl, rfl, Nat.le_refl _, rfl, rfl, Nat.le_refl _, MineS.nil (Ext.refl _), .inl ⟨Nat.zero_le _, NoStroke.nil _ _, by rw [List.nil_append, List.drop_zero]; exact HPF.out⟩⟩
  case round =>
    obtain ⟨k, f, A, n, c, l, hk, rfl, rfl, hfk, rfl, hn, hnk, hmi, hor⟩ := hrel
    have HMi := Lib.hid hmi
    have Hn := Lib.hid hn
    have HO : Hid (Own wr 9 1 (.slice A n c) n (l.map Value.string)) := Lib.hid (by have := hmi.2.1; rwa [← hn] at this)
    clear hmi hn
    rcases hor with ⟨hks, hns, hpf⟩ | ⟨rfl, he⟩
    · have Hns := Lib.hid hns
      have Hpf := Lib.hid hpf
      have hks' : (k : Int) ≤ (s.size : Int) := by omega
      clear hns hpf
      have hcut := cut_str (s := s) hfk hks
      obtain ⟨p, hp⟩ : ∃ p, mkB ((s.data.toList.drop f).take (k - f)) = p := ⟨_, rfl⟩
      rw [hp] at hcut
      have Hp := Lib.hid hp
      have hpl : p.size = k - f := by rw [← hp, ← size_data]; show (((s.data.toList.drop f).take (k - f)).toArray.toList).length = _; simp; have := size_data s; simp at this; omega
      clear hp
      by_cases hlt : k < s.size
      · obtain ⟨b, hb⟩ : ∃ c, s.data.toList[k]? = some c := ⟨_, List.getElem?_eq_getElem (by rw [size_data]; exact hlt)⟩
        have Hb := Lib.hid hb
        have hix := idx_str hb
        clear hb
        by_cases hb4 : b = 47
        · have Hst : Hid (l ++ ((if saysB p = true then [p] else []) ++ partsF (s.data.toList.drop (k + 1))) = P) := Lib.hid (by
            have := Hpf.out
            rw [partsF_at Hns.out hfk (by rw [Hb.out, hb4]), Hp.out] at this
            exact this)
          subst hb4
          by_cases hkf : f < k
          · have hkf' : (f : Int) < (k : Int) := by omega
            have hne : p ≠ emptyB := fun e => by rw [e] at hpl; have : emptyB.size = 0 := rfl; omega
            by_cases hd : p = dotB
            · have Hst2 : Hid (l ++ partsF (s.data.toList.drop (k + 1)) = P) := Lib.hid (by have := Hst.out; rwa [if_neg (by rw [hd]; decide), List.nil_append] at this)
              subst hd
              unfold dotB at hcut
              clear hne
              go_wp2_with fail
              go_roundw
              case rel => exact ⟨k + 1, k + 1, A, n, c, l, by omega, by go_num, by go_num, Nat.le_refl _, rfl, Hn.out, by omega, HMi.out, .inl ⟨by omega, NoStroke.nil _ _, Hst2.out⟩⟩
              case measure => first | (simp [intOf]; done) | (simp [intOf]; omega)
            · have Hst2 : Hid (l ++ [p] ++ partsF (s.data.toList.drop (k + 1)) = P) := Lib.hid (by have := Hst.out; rwa [if_pos (by unfold saysB; rw [decide_eq_true hne, decide_eq_true hd]; rfl), ← List.append_assoc] at this)
              have e2 := dot_ne hd
              clear hd hne
              go_wp2_with (at_builtin; refine wpList_append_own_any _ rfl (.tmp 32) (.tmp 37) 77 rfl 9 i _ 1 16 Tryd.underlying77 hi hz hsz hby rfl (by decide) (.slice A n c) n (l.map Value.string) rfl (HO.out.ext ((Ext.refl _).alloc _)) (some ⟨wr.heap.size, 0, none⟩) 1 1 ([p].map Value.string) rfl rfl (fun _ => ⟨_, rfl, new_cells _ _ _⟩) (strs_one [p]) (by unfold maxLen; omega) (by omega) ?_)
              intro v' w9 ho hg hv'
              have HN2 := Lib.hid ((HMi.out.ext ((Ext.refl _).alloc _)).push (v' := v') [p] rfl (by rw [← Hn.out]; exact ho) hg (by simpa using hv'))
              obtain ⟨A', c', rfl, -, -⟩ := ho.form
              clear ho hg hv'
              go_wp2_with fail
              go_roundw
              case rel => exact ⟨k + 1, k + 1, A', n + 1, c', l ++ [p], by omega, by go_num, by go_num, Nat.le_refl _, rfl, by simp [Hn.out], by omega, HN2.out, .inl ⟨by omega, NoStroke.nil _ _, Hst2.out⟩⟩
              case measure => first | (simp [intOf]; done) | (simp [intOf]; omega)
          · have hkf' : ¬ (f : Int) < (k : Int) := by omega
            have Hst2 : Hid (l ++ partsF (s.data.toList.drop (k + 1)) = P) := Lib.hid (by
              have hpe : p = emptyB := by rw [← Hp.out, show k - f = 0 from by omega, List.take_zero]; rfl
              have := Hst.out; rwa [if_neg (by rw [hpe]; decide), List.nil_append] at this)
            go_wp2_with fail
            go_roundw
            case rel => exact ⟨k + 1, k + 1, A, n, c, l, by omega, by go_num, by go_num, Nat.le_refl _, rfl, Hn.out, by omega, HMi.out, .inl ⟨by omega, NoStroke.nil _ _, Hst2.out⟩⟩
            case measure => first | (simp [intOf]; done) | (simp [intOf]; omega)
        · have b4 := ne47 hb4
          have Hns2 : Hid (NoStroke s.data.toList f (k + 1)) := Lib.hid (Hns.out.snoc hfk Hb.out hb4)
          clear hb4
          go_wp2_with fail
          go_roundw
          case rel => exact ⟨k + 1, f, A, n, c, l, by omega, by go_num, rfl, by omega, rfl, Hn.out, by omega, HMi.out, .inl ⟨by omega, Hns2.out, Hpf.out⟩⟩
          case measure => first | (simp [intOf]; done) | (simp [intOf]; omega)
      · obtain rfl : k = s.size := by omega
        have Hst : Hid (l ++ (if saysB p = true then [p] else []) = P) := Lib.hid (by
            have := Hpf.out
            rw [partsF_end (by rw [size_data]; exact Hns.out), size_data, Hp.out] at this
            exact this)
        by_cases hkf : f < s.size
        · have hkf' : (f : Int) < (s.size : Int) := by omega
          have hne : p ≠ emptyB := fun e => by rw [e] at hpl; have : emptyB.size = 0 := rfl; omega
          by_cases hd : p = dotB
          · have Hst2 : Hid (l = P) := Lib.hid (by have := Hst.out; rwa [if_neg (by rw [hd]; decide), List.append_nil] at this)
            subst hd
            unfold dotB at hcut
            clear hne
            go_wp2_with fail
            go_roundw
            case rel => exact ⟨s.size + 1, s.size + 1, A, n, c, l, by omega, by go_num, by go_num, Nat.le_refl _, rfl, Hn.out, by omega, HMi.out, .inr ⟨rfl, Hst2.out⟩⟩
            case measure => first | (simp [intOf]; done) | (simp [intOf]; omega)
          · have Hst2 : Hid (l ++ [p] = P) := Lib.hid (by have := Hst.out; rwa [if_pos (by unfold saysB; rw [decide_eq_true hne, decide_eq_true hd]; rfl)] at this)
            have e2 := dot_ne hd
            clear hd hne
            go_wp2_with (at_builtin; refine wpList_append_own_any _ rfl (.tmp 32) (.tmp 37) 77 rfl 9 i _ 1 16 Tryd.underlying77 hi hz hsz hby rfl (by decide) (.slice A n c) n (l.map Value.string) rfl (HO.out.ext ((Ext.refl _).alloc _)) (some ⟨wr.heap.size, 0, none⟩) 1 1 ([p].map Value.string) rfl rfl (fun _ => ⟨_, rfl, new_cells _ _ _⟩) (strs_one [p]) (by unfold maxLen; omega) (by omega) ?_)
            intro v' w9 ho hg hv'
            have HN2 := Lib.hid ((HMi.out.ext ((Ext.refl _).alloc _)).push (v' := v') [p] rfl (by rw [← Hn.out]; exact ho) hg (by simpa using hv'))
            obtain ⟨A', c', rfl, -, -⟩ := ho.form
            clear ho hg hv'
            go_wp2_with fail
            go_roundw
            case rel => exact ⟨s.size + 1, s.size + 1, A', n + 1, c', l ++ [p], by omega, by go_num, by go_num, Nat.le_refl _, rfl, by simp [Hn.out], by omega, HN2.out, .inr ⟨rfl, Hst2.out⟩⟩
            case measure => first | (simp [intOf]; done) | (simp [intOf]; omega)
        · have hkf' : ¬ (f : Int) < (s.size : Int) := by omega
          have Hst2 : Hid (l = P) := Lib.hid (by
            have hpe : p = emptyB := by rw [← Hp.out, show s.size - f = 0 from by omega, List.take_zero]; rfl
            have := Hst.out; rwa [if_neg (by rw [hpe]; decide), List.append_nil] at this)
          go_wp2_with fail
          go_roundw
          case rel => exact ⟨s.size + 1, s.size + 1, A, n, c, l, by omega, by go_num, by go_num, Nat.le_refl _, rfl, Hn.out, by omega, HMi.out, .inr ⟨rfl, Hst2.out⟩⟩
          case measure => first | (simp [intOf]; done) | (simp [intOf]; omega)
    · have He : Hid (l = P) := Lib.hid he
      have hks' : ¬ ((s.size : Int) + 1 ≤ (s.size : Int)) := by omega
      clear he
      go_wp2_with fail
      go_ret
      exact ⟨_, rfl, by have := HMi.out; rwa [He.out] at this⟩
end Go.Proofs.YtcpnnkkfndgpjaaDoor
