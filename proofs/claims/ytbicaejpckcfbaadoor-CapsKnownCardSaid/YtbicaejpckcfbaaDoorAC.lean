/- The document's texts and words, plainly. -/
import Derived.Test.YtbicaejpckcfbaaDoorAB
namespace Go.Proofs.YtbicaejpckcfbaaDoor
open Go.RowKit

theorem cut_seg : ∀ {u v : List UInt8}, (∀ c ∈ u, c ≠ 32) → cutS (u ++ 32 :: v) = u :: cutS v
  | [], v, _ => by rw [List.nil_append, cutS, if_pos rfl]
  | c :: u, v, h => by
    rw [List.cons_append, cutS, if_neg (h c List.mem_cons_self), cut_seg (fun d hd => h d (List.mem_cons_of_mem _ hd))]
theorem cut_last : ∀ {u : List UInt8}, (∀ c ∈ u, c ≠ 32) → cutS u = [u]
  | [], _ => rfl
  | c :: u, h => by
    rw [cutS, if_neg (h c List.mem_cons_self), cut_last (fun d hd => h d (List.mem_cons_of_mem _ hd))]
def NoBlank (s : List UInt8) (f i : Nat) : Prop := ∀ c ∈ (s.drop f).take (i - f), c ≠ 32
theorem NoBlank.nil (s : List UInt8) (f : Nat) : NoBlank s f f := by intro c h; simp at h
theorem NoBlank.snoc {s : List UInt8} {f i : Nat} (h : NoBlank s f i) (hf : f ≤ i) {c : UInt8} (hc : s[i]? = some c) (hn : c ≠ 32) : NoBlank s f (i + 1) := by
  intro d hd
  have e : (s.drop f).take (i + 1 - f) = (s.drop f).take (i - f) ++ [c] := by
    rw [show i + 1 - f = (i - f) + 1 from by omega, List.take_add_one]
    congr 1
    rw [List.getElem?_drop, show f + (i - f) = i from by omega, hc]
    rfl
  rw [e] at hd
  rcases List.mem_append.1 hd with hd | hd
  · exact h d hd
  · rw [List.mem_singleton.1 hd]; exact hn
def piecesF (s : List UInt8) : List ByteArray := (cutS s).map mkB
theorem pieces_at {s : List UInt8} {f i : Nat} (h : NoBlank s f i) (hf : f ≤ i) (hc : s[i]? = some 32) : piecesF (s.drop f) = mkB ((s.drop f).take (i - f)) :: piecesF (s.drop (i + 1)) := by
  obtain ⟨h1, h2⟩ := List.getElem?_eq_some_iff.1 hc
  have e : s.drop f = (s.drop f).take (i - f) ++ 32 :: s.drop (i + 1) := by
    conv => lhs; rw [← List.take_append_drop (i - f) (s.drop f)]
    rw [List.drop_drop, show f + (i - f) = i from by omega, List.drop_eq_getElem_cons h1, h2]
  unfold piecesF
  conv => lhs; rw [e]
  rw [cut_seg h, List.map_cons]
theorem pieces_end {s : List UInt8} {f : Nat} (h : NoBlank s f s.length) : piecesF (s.drop f) = [mkB ((s.drop f).take (s.length - f))] := by
  have e : (s.drop f).take (s.length - f) = s.drop f := List.take_of_length_le (by simp)
  unfold NoBlank at h
  rw [e] at h ⊢
  unfold piecesF
  rw [cut_last h]
  rfl
theorem size_data (s : ByteArray) : s.data.toList.length = s.size := by show s.data.toList.length = s.data.size; simp
theorem idx_str {s : ByteArray} {k : Nat} {c : UInt8} (h : s.data.toList[k]? = some c) (wx : World) : (Instr.index 9 (.string s) (.int .i64 (k : Int))).run Tryd.prog wx = .ok (.int .u8 (c.toNat : Int)) wx := by
  obtain ⟨h1, h2⟩ := List.getElem?_eq_some_iff.1 h
  have hs := size_data s
  rw [run_index_string (P := Tryd.prog) (w := wx) 9 s .i64 (k : Int) Tryd.underlying9, dif_pos ⟨by omega, by omega⟩]
  have e : s[((k : Int)).toNat]'(by omega) = c := by rw [← h2]; simp [ByteArray.getElem_eq_getElem_data]
  rw [e]
theorem cut_str {s : ByteArray} {f i : Nat} (h1 : f ≤ i) (h2 : i ≤ s.size) (wx : World) : (Instr.slice 9 (.string s) (some (.int .i64 (f : Int))) (some (.int .i64 (i : Int))) none).run Tryd.prog wx = .ok (.string (mkB ((s.data.toList.drop f).take (i - f)))) wx := by
  rw [run_slice_string (P := Tryd.prog) wx 9 s .i64 .i64 (f : Int) (i : Int) Tryd.underlying9 (by omega) (by omega) (by omega)]
  have e : s.extract ((f : Int)).toNat ((i : Int)).toNat = mkB ((s.data.toList.drop f).take (i - f)) := by
    rw [Int.toNat_natCast, Int.toNat_natCast, ← mkB_data (s.extract f i)]
    congr 1
    rw [ByteArray.data_extract, Array.toList_extract, List.extract_eq_take_drop]
  rw [e]
theorem ne32 {c : UInt8} (h : c ≠ 32) : ((c.toNat : Int) == 32) = false := beq_eq_false_iff_ne.2 (fun e => h (UInt8.toNat_inj.1 (by
  have h2 : c.toNat = 32 := by omega
  rw [h2]; rfl)))
theorem fnd_low (next : Nat) (w : ByteArray) : ∀ k, k ≤ next → fnd next w k = -1
  | 0, _ => rfl
  | k + 1, h => by
    unfold fnd
    rw [if_neg (by omega), fnd_low next w k (by omega)]
theorem mkB_app (a b : List UInt8) : mkB (a ++ b) = mkB a ++ mkB b := by
  have : (mkB a ++ mkB b).data.toList = a ++ b := by rw [ByteArray.data_append]; simp [mkB]
  rw [← mkB_data (mkB a ++ mkB b), this]
theorem joinB_one (x : ByteArray) : joinB [x] = x := by
  unfold joinB
  rw [show Lib.join ([x].map (·.data.toList)) [32] = x.data.toList from by simp [Lib.join, List.intercalate]]
theorem join_snoc2 (l : List (List UInt8)) (a x : List UInt8) : Lib.join (a :: l ++ [x]) [32] = Lib.join (a :: l) [32] ++ [32] ++ x := by
  unfold Lib.join
  induction l generalizing a with
  | nil => simp [List.intercalate]
  | cons b l ih =>
    have e := ih b
    have e1 : ∀ y ys, [32].intercalate (a :: y :: ys) = a ++ 32 :: [32].intercalate (y :: ys) := by intro y ys; simp [List.intercalate]
    rw [List.cons_append, List.cons_append, e1, e1, ← List.cons_append, e]
    simp
theorem joinB_more (l : List ByteArray) (x : ByteArray) (h : l ≠ []) : joinB (l ++ [x]) = joinB l ++ ⟨#[32]⟩ ++ x := by
  cases l with
  | nil => exact absurd rfl h
  | cons a l =>
    have e : joinB (a :: l ++ [x]) = mkB ((joinB (a :: l)).data.toList ++ [32] ++ x.data.toList) := by
      unfold joinB
      rw [List.map_append, List.map_cons, List.map_singleton, join_snoc2]
      simp [mkB]
    rw [e, mkB_app, mkB_app, mkB_data, mkB_data]
    rfl
theorem joinB_first (x : ByteArray) : joinB ([] ++ [x]) = ⟨#[]⟩ ++ x := by
  rw [List.nil_append, joinB_one]
  have : ((⟨#[]⟩ : ByteArray) ++ x).data.toList = x.data.toList := by rw [ByteArray.data_append]; simp
  rw [← mkB_data (⟨#[]⟩ ++ x), this, mkB_data]
theorem and_bit : ∀ c : Fin 16, ∀ k : Fin 4, bits BinOp.and IntKind.u8 (c.val : Int) ((2 ^ k.val : Nat) : Int) = if bitB c.val k.val then ((2 ^ k.val : Nat) : Int) else 0 := by decide +kernel
theorem dbl_bit : ∀ k : Fin 4, IntKind.u8.wrap (2 * ((2 ^ k.val : Nat) : Int)) = ((2 ^ (k.val + 1) : Nat) : Int) := by decide +kernel
theorem sel_join : ∀ c : Fin 16, ∀ k : Fin 5, (Lib.join ((selB c.val k.val).map (·.data.toList)) [32]).length ≤ 64 := by decide +kernel
theorem sel_some : ∀ c : Fin 16, ∀ k : Fin 5, selB c.val k.val ≠ [] → Lib.join ((selB c.val k.val).map (·.data.toList)) [32] ≠ [] := by decide +kernel
theorem rwords_any (w : World) : Calls Tryd.prog 20 #[] w fun e w' => e = .returned (.slice (some ⟨w.heap.size, 0, none⟩) 4 4) ∧ w' = w.alloc (.cells #[.string (wordB 0), .string (wordB 1), .string (wordB 2), .string (wordB 3)] 9) := by
  go_enter Tryd.func20, Tryd.ntmps20
  go_wp2_with fail
  go_ret
  exact ⟨rfl, rfl⟩
theorem words_cell {w wx : World} (k : Nat) (hk : k < 4) (hx : Ext (w.alloc (.cells #[.string (wordB 0), .string (wordB 1), .string (wordB 2), .string (wordB 3)] 9)) wx) : wx.cell? ⟨w.heap.size, k, none⟩ = some (.string (wordB k)) := by
  rw [hx.cell_new]
  rcases (by omega : k = 0 ∨ k = 1 ∨ k = 2 ∨ k = 3) with rfl | rfl | rfl | rfl <;> rfl
theorem isEmpty_ne {s : ByteArray} (h : s.data.toList ≠ []) : s.toList.isEmpty = false := by
  rw [Lib.toList_data]
  cases hd : s.data.toList with
  | nil => exact absurd hd h
  | cons _ _ => rfl
set_option maxRecDepth 20000 in
set_option maxHeartbeats 1000000 in
theorem rtext_any (c : Nat) (w : World) : Calls Tryd.prog 14 #[.int .u8 (c : Int)] w fun e w' => e = .returned (.string (textN c)) ∧ Ext w w' := by
  by_cases h15 : 15 < c
  · have hv : Hid (textN c = ⟨#[]⟩) := if_pos h15
    go_enter Tryd.func14, Tryd.ntmps14
    go_wp2
    go_ret
    exact ⟨by rw [hv.out]; rfl, Ext.refl _⟩
  by_cases h0 : c = 0
  · have hv : Hid (textN c = ⟨#[114, 101, 97, 100]⟩) := by show _ = _; subst h0; rfl
    go_enter Tryd.func14, Tryd.ntmps14
    go_wp2
    go_ret
    exact ⟨by rw [hv.out]; rfl, Ext.refl _⟩
  have hv : Hid (textN c = joinB (selB c 4)) := by show _ = _; unfold textN; rw [if_neg h15, if_neg h0]
  go_enter Tryd.func14, Tryd.ntmps14
  go_wp2_with fail
  refine (rwords_any w).mono ?_
  rintro e w1 ⟨rfl, hw1⟩
  have HC : Hid (∀ k, k < 4 → w1.cell? ⟨w.heap.size, k, none⟩ = some (.string (wordB k))) := Lib.hid (fun k hk => words_cell k hk (by rw [← hw1]; exact Ext.refl _))
  have HX : Hid (Ext w w1) := Lib.hid (by rw [hw1]; exact (Ext.refl _).alloc _)
  clear hw1
  go_wp2_with fail
  go_loop [3, 5, 6] (fun sv bv iv => ∃ k : Nat, k ≤ 4 ∧ iv = .int .i64 (k : Int) ∧ bv = .int .u8 ((2 ^ k : Nat) : Int) ∧ sv = .string (joinB (selB c k))) (fun _ _ iv => 4 - (intOf iv).toNat)
  case atStart => exact ⟨0, Nat.zero_le _, rfl, rfl, rfl⟩
  case round =>
    obtain ⟨k, hk, rfl, rfl, rfl⟩ := hrel
    by_cases hlt : k < 4
    · have hb := and_bit ⟨c, by omega⟩ ⟨k, hlt⟩
      have hd := dbl_bit ⟨k, hlt⟩
      have hjl := sel_join ⟨c, by omega⟩ ⟨k, by omega⟩
      have hjs := sel_some ⟨c, by omega⟩ ⟨k, by omega⟩
      have hss := selB_succ c k
      have hws := wordB_size k
      have c0 := HC.out k hlt
      simp only at hb hd hjl hjs
      have hp : 2 ^ k ≠ 0 := by have := Nat.two_pow_pos k; omega
      obtain ⟨p, hpe⟩ : ∃ p : Nat, 2 ^ k = p := ⟨_, rfl⟩
      obtain ⟨p', hpe'⟩ : ∃ p : Nat, 2 ^ (k + 1) = p := ⟨_, rfl⟩
      rw [hpe] at hb hd hp ⊢
      rw [hpe'] at hd
      have Hpe' := Lib.hid hpe'
      obtain ⟨J, hJ⟩ : ∃ J, joinB (selB c k) = J := ⟨_, rfl⟩
      have hJd : J.data.toList = Lib.join ((selB c k).map (·.data.toList)) [32] := by rw [← hJ]; simp [joinB]
      rw [← hJd] at hjl hjs
      rw [size_data] at hjl
      have hws' : (wordB k).size ≤ 5 := hws
      obtain ⟨x, hx⟩ : ∃ x, wordB k = x := ⟨_, rfl⟩
      rw [hx] at c0 hss hws'
      rw [hJ]
      clear hJd hx hpe hpe' hws
      cases hbit : bitB c k with
      | false =>
        have hb2 : bits BinOp.and IntKind.u8 (c : Int) (p : Int) = 0 := by rw [hb, hbit]; rfl
        have HJ2 : Hid (J = joinB (selB c (k + 1))) := Lib.hid (by rw [hss, hbit, ← hJ]; simp)
        clear hb hjs hss hJ hbit
        go_wp2_with fail
        go_round
        case rel => exact ⟨k + 1, by omega, by go_num, by rw [Hpe'.out], by rw [HJ2.out]⟩
        case measure => first | (simp [intOf]; done) | (simp [intOf]; omega)
      | true =>
        have hb2 : bits BinOp.and IntKind.u8 (c : Int) (p : Int) = (p : Int) := by rw [hb, hbit]; rfl
        have hp2 : ((p : Int) == 0) = false := beq_eq_false_iff_ne.2 (by omega)
        by_cases hse : selB c k = []
        · have hJe : J = ⟨#[]⟩ := by rw [← hJ, hse]; rfl
          have HJ2 : Hid (⟨#[]⟩ ++ x = joinB (selB c (k + 1))) := Lib.hid (by rw [hss, hbit, hse, if_pos rfl, joinB_first])
          clear hb hjs hss hJ hbit hse
          subst hJe
          go_wp2_with fail
          go_round
          case rel => exact ⟨k + 1, by omega, by go_num, by rw [Hpe'.out], by rw [← HJ2.out]⟩
          case measure => first | (simp [intOf]; done) | (simp [intOf]; omega)
        · have hJe := isEmpty_ne (hjs hse)
          have HJ2 : Hid (J ++ ⟨#[32]⟩ ++ x = joinB (selB c (k + 1))) := Lib.hid (by rw [hss, hbit, if_pos rfl, joinB_more _ _ hse, hJ])
          clear hb hjs hss hJ hbit hse
          have hsz1 : J.size + 1 + x.size ≤ 70 := by omega
          go_wp2_with fail
          go_round
          case rel => exact ⟨k + 1, by omega, by go_num, by rw [Hpe'.out], by rw [← HJ2.out]⟩
          case measure => first | (simp [intOf]; done) | (simp [intOf]; omega)
    · obtain rfl : k = 4 := by omega
      obtain ⟨J, hJ⟩ : ∃ J, joinB (selB c 4) = J := ⟨_, rfl⟩
      have HJ := Lib.hid hJ
      rw [hJ]
      clear hJ
      go_wp2_with fail
      go_ret
      exact ⟨by rw [hv.out, HJ.out]; rfl, HX.out⟩
end Go.Proofs.YtbicaejpckcfbaaDoor
