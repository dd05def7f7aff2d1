/- The statement CapsFolds walked. -/
import Derived.Test.YtbicaejpckcfbaaU
namespace Go.Proofs.Ytbicaejpckcfbaa
open Go.RowKit

theorem WrSl.made (w : World) (ls : List Wr) (vs : Array Value) (hv : vs.toList = flatW ls) : WrSl (w.alloc (.cells vs 25)) (some ⟨w.heap.size, 0, none⟩) ls.length ls := by
  refine ⟨rfl, fun _ => ⟨w.heap.size, 0, rfl, by simp, fun k x hk => ?_⟩⟩
  have hc : ∀ j u, (flatW ls)[j]? = some u → (w.alloc (.cells vs 25)).cell? ⟨w.heap.size, j, none⟩ = some u := fun j u hu => by
    rw [cell_of_row _ _ _ _ 25 (0, 0) (heap_alloc_new w _), ← Array.getElem?_toList, hv]; exact hu
  rw [Nat.zero_add]
  exact ⟨hc _ _ (flatW_get ls k 0 x hk (by decide)), hc _ _ (flatW_get ls k 1 x hk (by decide)), hc _ _ (flatW_get ls k 2 x hk (by decide)), hc _ _ (flatW_get ls k 3 x hk (by decide))⟩
theorem stack_lt (ls : List Wr) (leaf : Nat) : (stackN ls leaf).1 < 16 := by
  unfold stackN
  split
  · show 0 < 16; decide
  · split
    · show 0 < 16; decide
    · exact foldS_lt ls leaf (by omega)
theorem twice_parts {k : Int} {leaf oa : Nat} {oe : Int} (h : twiceB k leaf = true) (ho : stackN [wk k] leaf = (oa, oe)) : stackN [wk k, wk k] leaf = (oa, oe) ∧ (oe = 0 → k = 4 ∨ lessB oa leaf = true) := by
  unfold twiceB at h
  rw [ho] at h
  simp only [Bool.and_eq_true, decide_eq_true_eq, Bool.or_eq_true, Bool.not_eq_true', decide_eq_false_iff_not] at h
  refine ⟨h.1, fun h0 => ?_⟩
  rcases h.2 with (h2 | h2) | h2
  · exact absurd h0 h2
  · exact .inl h2
  · exact .inr h2
def kindsV : Value := .agg #[.int .i8 0, .int .i8 3, .int .i8 9, .int .i8 10, .int .i8 7, .int .i8 4]

set_option maxRecDepth 20000 in
set_option maxHeartbeats 4000000 in
theorem capsFolds_walk (A : Option Addr) (n c : Nat) (ls : List Wr) (A' : Option Addr) (n' c' : Nat) (ms : List Wr) (leaf : Nat) (w : World) (hs : WrSl w A n ls) (hok : ∀ x ∈ ls, x.ok) (hs' : WrSl w A' n' ms) (hok' : ∀ x ∈ ms, x.ok) (hn : (n + n') * 32 ≤ 140737488355328) (hlf : leaf < 256) :
    Calls Try.prog 6 #[.slice A n c, .slice A' n' c', .int .u8 (leaf : Int)] w fun e w' => e = .returned (.bool true) ∧ Ext w w' := by
  have HS := Lib.hid hs
  have Hl := Lib.hid hs.1
  have HK := Lib.hid hok
  have HS' := Lib.hid hs'
  have Hl' := Lib.hid hs'.1
  have HK' := Lib.hid hok'
  have hc : n ≤ 9223372036854775807 := by omega
  have hc' : n' ≤ 9223372036854775807 := by omega
  clear hs hok hs' hok'
  have x0 : ∀ w : World, (Instr.index 38 kindsV (.int .i64 0)).run Try.prog w = .ok (.int .i8 0) w := fun _ => by kernel_rfl
  have x1 : ∀ w : World, (Instr.index 38 kindsV (.int .i64 1)).run Try.prog w = .ok (.int .i8 3) w := fun _ => by kernel_rfl
  have x2 : ∀ w : World, (Instr.index 38 kindsV (.int .i64 2)).run Try.prog w = .ok (.int .i8 9) w := fun _ => by kernel_rfl
  have x3 : ∀ w : World, (Instr.index 38 kindsV (.int .i64 3)).run Try.prog w = .ok (.int .i8 10) w := fun _ => by kernel_rfl
  have x4 : ∀ w : World, (Instr.index 38 kindsV (.int .i64 4)).run Try.prog w = .ok (.int .i8 7) w := fun _ => by kernel_rfl
  have x5 : ∀ w : World, (Instr.index 38 kindsV (.int .i64 5)).run Try.prog w = .ok (.int .i8 4) w := fun _ => by kernel_rfl
  unfold kindsV at x0 x1 x2 x3 x4 x5
  obtain ⟨i, hi, hz, hsz, hby⟩ := info_parts Try.info25
  go_enter Try.func6, Try.ntmps6
  go_wp2_with fail
  refine (works_any _).mono ?_
  rintro e w0 ⟨rfl, hx0⟩
  have HX0 := Lib.hid hx0
  have hnews := Lib.hid (HS.out.ext hx0).news
  clear hx0
  go_wp2_with (at_builtin; refine wpList_append_own_any _ rfl (.const (.slice none 0 0)) (.tmp 23) 35 rfl 25 i _ 4 32 Try.underlying35 hi hz hsz hby rfl (by decide) (.slice none 0 0) 0 [] rfl (Own.nil _ _ _) A n c (flatW ls) rfl (by rw [flatW_length]; have := Hl.out; omega) hnews.out (flatW_one ls) (by unfold maxLen; omega) (by omega) ?_)
  intro v1 w1 ho1 hg1 hv1
  have hx1 : Ext w0 w1 := (Ext.refl _).grown hg1 (fun j h => by simp [Value.ownBlock] at h)
  have hlo1 : ∀ j, v1.ownBlock = some j → w0.heap.size ≤ j := fun j hj => by
    rcases hv1 with h | h
    · rw [h] at hj; simp [Value.ownBlock] at hj
    · rw [h] at hj; injection hj with hj; omega
  obtain ⟨A1, c1, rfl, -, -⟩ := ho1.form
  have HO1 := Lib.hid ho1
  have HL1 := Lib.hid hlo1
  have HX1 := Lib.hid (HX0.out.trans hx1)
  have hnews2 := Lib.hid (HS'.out.ext (HX0.out.trans hx1)).news
  have HX01 := Lib.hid hx1
  clear ho1 hg1 hv1 hx1 hlo1
  go_wp2_with (at_builtin; refine wpList_append_own_any _ rfl (.tmp 24) (.tmp 25) 35 rfl 25 i _ 4 32 Try.underlying35 hi hz hsz hby rfl (by decide) (.slice A1 n c1) n (flatW ls) rfl HO1.out A' n' c' (flatW ms) rfl (by rw [flatW_length]; have := Hl'.out; omega) hnews2.out (flatW_one ms) (by unfold maxLen; omega) (by omega) ?_)
  intro v2 w2 ho2 hg2 hv2
  have hx2 : Ext w w2 := HX0.out.trans (HX01.out.grown hg2 (fun j h => HL1.out j h))
  obtain ⟨A2, c2, rfl, -, -⟩ := ho2.form
  have HS2 : Hid (WrSl w2 A2 (n + n') (ls ++ ms)) := by
    have e1 := Hl.out
    have e2 := Hl'.out
    subst e1 e2
    rw [← flatW_append, ← List.length_append] at ho2
    have := WrSl.of_own ho2
    rwa [List.length_append] at this
  have HX2 := Lib.hid hx2
  have HK2 : Hid (∀ x ∈ ls ++ ms, x.ok) := fun x hx => (List.mem_append.1 hx).elim (HK.out x) (HK'.out x)
  clear ho2 hg2 hv2 hx2 hnews hnews2 HO1 HL1
  go_wp2_with fail
  refine (stack_any A2 (n + n') c2 (ls ++ ms) leaf w2 HS2.out HK2.out (by omega)).mono ?_
  rintro e w3 ⟨rfl, hx3⟩
  obtain ⟨sa, se, hsv⟩ : ∃ (sa : Nat) (se : Int), stackN (ls ++ ms) leaf = (sa, se) := ⟨_, _, rfl⟩
  rw [hsv]
  have Hsv := Lib.hid hsv
  have HX3 := Lib.hid (HX2.out.trans hx3)
  clear hsv hx3
  go_wp2_with fail
  refine (stack_any A n c ls leaf w3 (HS.out.ext HX3.out) HK.out hc).mono ?_
  rintro e w4 ⟨rfl, hx4⟩
  obtain ⟨sb, sf, hsw⟩ : ∃ (sa : Nat) (se : Int), stackN ls leaf = (sa, se) := ⟨_, _, rfl⟩
  rw [hsw]
  have Hsw := Lib.hid hsw
  have HX4 := Lib.hid (HX3.out.trans hx4)
  clear hsw hx4
  go_wp2_with fail
  refine (stack_any A' n' c' ms sb w4 (HS'.out.ext HX4.out) HK'.out hc').mono ?_
  rintro e w5 ⟨rfl, hx5⟩
  obtain ⟨sc, sg, hsx⟩ : ∃ (sa : Nat) (se : Int), stackN ms sb = (sa, se) := ⟨_, _, rfl⟩
  rw [hsx]
  have Hsx := Lib.hid hsx
  have HX5 := Lib.hid (HX4.out.trans hx5)
  clear hsx hx5
  have hfold : se = 0 → sf = 0 ∧ sg = 0 ∧ sa = sc := fun h => by
    have := @stack_folds ls ms leaf
    rw [Hsv.out, Hsw.out, Hsx.out] at this
    exact this h
  have HP : Hid (∃ wl : World, wl = w5 ∧ Ext w w5) := ⟨_, rfl, HX5.out⟩
  by_cases hse : se = 0
  · obtain ⟨rfl, rfl, rfl⟩ := hfold hse
    subst hse
    clear hfold HS HS' HS2 HX0 HX1 HX01 HX2 HX3 HX4 Hsv Hsw Hsx
    go_wp2_with fail
    go_loopw [59] (fun i wr => ∃ k : Nat, k ≤ 6 ∧ i = .int .i64 k ∧ Ext w wr) (fun i _ => 6 - (intOf i).toNat)
    case atStart => exact ⟨0, Nat.zero_le _, rfl, HX5.out⟩
    case round =>
      obtain ⟨k, hk, rfl, hx⟩ := hrel
      have HX := Lib.hid hx
      clear hx
      by_cases hlt : k < 6
      · rcases (by omega : k = 0 ∨ k = 1 ∨ k = 2 ∨ k = 3 ∨ k = 4 ∨ k = 5) with rfl | rfl | rfl | rfl | rfl | rfl
        · obtain ⟨oa, oe, ho⟩ : ∃ (oa : Nat) (oe : Int), stackN [wk 0] leaf = (oa, oe) := ⟨_, _, rfl⟩
          have hoa : oa < 16 := by have := stack_lt [wk 0] leaf; rw [ho] at this; exact this
          obtain ⟨ho2, hless⟩ := twice_parts (twice_ok (k := 0) (by decide) leaf) ho
          have Ho := Lib.hid ho
          have Ho2 := Lib.hid ho2
          have Hle := Lib.hid hless
          have Hsl : Hid (WrSl ((wr.alloc (.cells #[.int .i8 0, .int .i64 0, .int .i64 0, .int .u64 0] 25)).alloc (.cells #[.int .i8 0, .int .i64 0, .int .i64 0, .int .u64 0] 25)) (some ⟨wr.heap.size + 1, 0, none⟩) 1 [wk 0]) := Lib.hid (by have := WrSl.made (wr.alloc (.cells #[.int .i8 0, .int .i64 0, .int .i64 0, .int .u64 0] 25)) [wk 0] #[.int .i8 0, .int .i64 0, .int .i64 0, .int .u64 0] rfl; simpa using this)
          have Hok1 : Hid (∀ x ∈ [wk 0], x.ok) := fun x hx => by rw [List.mem_singleton.1 hx]; exact ⟨by decide, by decide⟩
          have Hok2 : Hid (∀ x ∈ [wk 0, wk 0], x.ok) := fun x hx => by
            rcases List.mem_cons.1 hx with rfl | hx
            · exact ⟨by decide, by decide⟩
            · rw [List.mem_singleton.1 hx]; exact ⟨by decide, by decide⟩
          have e2 : Ext (wr.alloc (.cells #[.int .i8 0, .int .i64 0, .int .i64 0, .int .u64 0] 25)) ((wr.alloc (.cells #[.int .i8 0, .int .i64 0, .int .i64 0, .int .u64 0] 25)).alloc (.cells #[.int .i8 0, .int .i64 0, .int .i64 0, .int .u64 0] 25)) := (Ext.refl _).alloc _
          have HE2 := Lib.hid e2
          clear ho ho2 hless e2
          go_wp2_with fail
          refine (stack_any _ 1 1 [wk 0] leaf _ Hsl.out Hok1.out (by decide)).mono ?_
          rintro e y1 ⟨rfl, hy1⟩
          rw [Ho.out]
          have hb1 := HE2.out.trans hy1
          have b0 : y1.cell? ⟨wr.heap.size, 0, none⟩ = some (.int .i8 0) := hb1.cell_new 0
          have b1 : y1.cell? ⟨wr.heap.size, 1, none⟩ = some (.int .i64 0) := hb1.cell_new 1
          have b2 : y1.cell? ⟨wr.heap.size, 2, none⟩ = some (.int .i64 0) := hb1.cell_new 2
          have b3 : y1.cell? ⟨wr.heap.size, 3, none⟩ = some (.int .u64 0) := hb1.cell_new 3
          have HY1 : Hid (Ext w y1) := HX.out.trans (((Ext.refl wr).alloc _).trans hb1)
          clear hb1 hy1
          go_wp2_with fail
          refine (stack_any _ 2 2 [wk 0, wk 0] leaf _ (WrSl.made y1 [wk 0, wk 0] _ rfl) Hok2.out (by decide)).mono ?_
          rintro e y2 ⟨rfl, hy2⟩
          rw [Ho2.out]
          have HY2 : Hid (Ext w y2) := HY1.out.trans (((Ext.refl y1).alloc _).trans hy2)
          clear hy2 b0 b1 b2 b3
          by_cases hoe : oe = 0
          · have hl2 := Hle.out hoe
            subst hoe
            have hl3 : lessB oa leaf = true := hl2.resolve_left (by decide)
            clear hl2
            go_wp2_with fail
            refine (less_any oa leaf (by omega) hlf y2).mono ?_
            rintro e y3 ⟨rfl, rfl⟩
            rw [hl3]
            go_wp2_with fail
            go_roundw
            case rel => exact ⟨1, by omega, by go_num, HY2.out⟩
            case measure => simp [intOf]
          · have q2 : (oe == 0) = false := beq_eq_false_iff_ne.2 hoe
            go_wp2_with fail
            go_roundw
            case rel => exact ⟨1, by omega, by go_num, HY2.out⟩
            case measure => simp [intOf]
        · obtain ⟨oa, oe, ho⟩ : ∃ (oa : Nat) (oe : Int), stackN [wk 3] leaf = (oa, oe) := ⟨_, _, rfl⟩
          have hoa : oa < 16 := by have := stack_lt [wk 3] leaf; rw [ho] at this; exact this
          obtain ⟨ho2, hless⟩ := twice_parts (twice_ok (k := 3) (by decide) leaf) ho
          have Ho := Lib.hid ho
          have Ho2 := Lib.hid ho2
          have Hle := Lib.hid hless
          have Hsl : Hid (WrSl ((wr.alloc (.cells #[.int .i8 3, .int .i64 0, .int .i64 0, .int .u64 0] 25)).alloc (.cells #[.int .i8 3, .int .i64 0, .int .i64 0, .int .u64 0] 25)) (some ⟨wr.heap.size + 1, 0, none⟩) 1 [wk 3]) := Lib.hid (by have := WrSl.made (wr.alloc (.cells #[.int .i8 3, .int .i64 0, .int .i64 0, .int .u64 0] 25)) [wk 3] #[.int .i8 3, .int .i64 0, .int .i64 0, .int .u64 0] rfl; simpa using this)
          have Hok1 : Hid (∀ x ∈ [wk 3], x.ok) := fun x hx => by rw [List.mem_singleton.1 hx]; exact ⟨by decide, by decide⟩
          have Hok2 : Hid (∀ x ∈ [wk 3, wk 3], x.ok) := fun x hx => by
            rcases List.mem_cons.1 hx with rfl | hx
            · exact ⟨by decide, by decide⟩
            · rw [List.mem_singleton.1 hx]; exact ⟨by decide, by decide⟩
          have e2 : Ext (wr.alloc (.cells #[.int .i8 3, .int .i64 0, .int .i64 0, .int .u64 0] 25)) ((wr.alloc (.cells #[.int .i8 3, .int .i64 0, .int .i64 0, .int .u64 0] 25)).alloc (.cells #[.int .i8 3, .int .i64 0, .int .i64 0, .int .u64 0] 25)) := (Ext.refl _).alloc _
          have HE2 := Lib.hid e2
          clear ho ho2 hless e2
          go_wp2_with fail
          refine (stack_any _ 1 1 [wk 3] leaf _ Hsl.out Hok1.out (by decide)).mono ?_
          rintro e y1 ⟨rfl, hy1⟩
          rw [Ho.out]
          have hb1 := HE2.out.trans hy1
          have b0 : y1.cell? ⟨wr.heap.size, 0, none⟩ = some (.int .i8 3) := hb1.cell_new 0
          have b1 : y1.cell? ⟨wr.heap.size, 1, none⟩ = some (.int .i64 0) := hb1.cell_new 1
          have b2 : y1.cell? ⟨wr.heap.size, 2, none⟩ = some (.int .i64 0) := hb1.cell_new 2
          have b3 : y1.cell? ⟨wr.heap.size, 3, none⟩ = some (.int .u64 0) := hb1.cell_new 3
          have HY1 : Hid (Ext w y1) := HX.out.trans (((Ext.refl wr).alloc _).trans hb1)
          clear hb1 hy1
          go_wp2_with fail
          refine (stack_any _ 2 2 [wk 3, wk 3] leaf _ (WrSl.made y1 [wk 3, wk 3] _ rfl) Hok2.out (by decide)).mono ?_
          rintro e y2 ⟨rfl, hy2⟩
          rw [Ho2.out]
          have HY2 : Hid (Ext w y2) := HY1.out.trans (((Ext.refl y1).alloc _).trans hy2)
          clear hy2 b0 b1 b2 b3
          by_cases hoe : oe = 0
          · have hl2 := Hle.out hoe
            subst hoe
            have hl3 : lessB oa leaf = true := hl2.resolve_left (by decide)
            clear hl2
            go_wp2_with fail
            refine (less_any oa leaf (by omega) hlf y2).mono ?_
            rintro e y3 ⟨rfl, rfl⟩
            rw [hl3]
            go_wp2_with fail
            go_roundw
            case rel => exact ⟨2, by omega, by go_num, HY2.out⟩
            case measure => simp [intOf]
          · have q2 : (oe == 0) = false := beq_eq_false_iff_ne.2 hoe
            go_wp2_with fail
            go_roundw
            case rel => exact ⟨2, by omega, by go_num, HY2.out⟩
            case measure => simp [intOf]
        · obtain ⟨oa, oe, ho⟩ : ∃ (oa : Nat) (oe : Int), stackN [wk 9] leaf = (oa, oe) := ⟨_, _, rfl⟩
          have hoa : oa < 16 := by have := stack_lt [wk 9] leaf; rw [ho] at this; exact this
          obtain ⟨ho2, hless⟩ := twice_parts (twice_ok (k := 9) (by decide) leaf) ho
          have Ho := Lib.hid ho
          have Ho2 := Lib.hid ho2
          have Hle := Lib.hid hless
          have Hsl : Hid (WrSl ((wr.alloc (.cells #[.int .i8 9, .int .i64 0, .int .i64 0, .int .u64 0] 25)).alloc (.cells #[.int .i8 9, .int .i64 0, .int .i64 0, .int .u64 0] 25)) (some ⟨wr.heap.size + 1, 0, none⟩) 1 [wk 9]) := Lib.hid (by have := WrSl.made (wr.alloc (.cells #[.int .i8 9, .int .i64 0, .int .i64 0, .int .u64 0] 25)) [wk 9] #[.int .i8 9, .int .i64 0, .int .i64 0, .int .u64 0] rfl; simpa using this)
          have Hok1 : Hid (∀ x ∈ [wk 9], x.ok) := fun x hx => by rw [List.mem_singleton.1 hx]; exact ⟨by decide, by decide⟩
          have Hok2 : Hid (∀ x ∈ [wk 9, wk 9], x.ok) := fun x hx => by
            rcases List.mem_cons.1 hx with rfl | hx
            · exact ⟨by decide, by decide⟩
            · rw [List.mem_singleton.1 hx]; exact ⟨by decide, by decide⟩
          have e2 : Ext (wr.alloc (.cells #[.int .i8 9, .int .i64 0, .int .i64 0, .int .u64 0] 25)) ((wr.alloc (.cells #[.int .i8 9, .int .i64 0, .int .i64 0, .int .u64 0] 25)).alloc (.cells #[.int .i8 9, .int .i64 0, .int .i64 0, .int .u64 0] 25)) := (Ext.refl _).alloc _
          have HE2 := Lib.hid e2
          clear ho ho2 hless e2
          go_wp2_with fail
          refine (stack_any _ 1 1 [wk 9] leaf _ Hsl.out Hok1.out (by decide)).mono ?_
          rintro e y1 ⟨rfl, hy1⟩
          rw [Ho.out]
          have hb1 := HE2.out.trans hy1
          have b0 : y1.cell? ⟨wr.heap.size, 0, none⟩ = some (.int .i8 9) := hb1.cell_new 0
          have b1 : y1.cell? ⟨wr.heap.size, 1, none⟩ = some (.int .i64 0) := hb1.cell_new 1
          have b2 : y1.cell? ⟨wr.heap.size, 2, none⟩ = some (.int .i64 0) := hb1.cell_new 2
          have b3 : y1.cell? ⟨wr.heap.size, 3, none⟩ = some (.int .u64 0) := hb1.cell_new 3
          have HY1 : Hid (Ext w y1) := HX.out.trans (((Ext.refl wr).alloc _).trans hb1)
          clear hb1 hy1
          go_wp2_with fail
          refine (stack_any _ 2 2 [wk 9, wk 9] leaf _ (WrSl.made y1 [wk 9, wk 9] _ rfl) Hok2.out (by decide)).mono ?_
          rintro e y2 ⟨rfl, hy2⟩
          rw [Ho2.out]
          have HY2 : Hid (Ext w y2) := HY1.out.trans (((Ext.refl y1).alloc _).trans hy2)
          clear hy2 b0 b1 b2 b3
          by_cases hoe : oe = 0
          · have hl2 := Hle.out hoe
            subst hoe
            have hl3 : lessB oa leaf = true := hl2.resolve_left (by decide)
            clear hl2
            go_wp2_with fail
            refine (less_any oa leaf (by omega) hlf y2).mono ?_
            rintro e y3 ⟨rfl, rfl⟩
            rw [hl3]
            go_wp2_with fail
            go_roundw
            case rel => exact ⟨3, by omega, by go_num, HY2.out⟩
            case measure => simp [intOf]
          · have q2 : (oe == 0) = false := beq_eq_false_iff_ne.2 hoe
            go_wp2_with fail
            go_roundw
            case rel => exact ⟨3, by omega, by go_num, HY2.out⟩
            case measure => simp [intOf]
        · obtain ⟨oa, oe, ho⟩ : ∃ (oa : Nat) (oe : Int), stackN [wk 10] leaf = (oa, oe) := ⟨_, _, rfl⟩
          have hoa : oa < 16 := by have := stack_lt [wk 10] leaf; rw [ho] at this; exact this
          obtain ⟨ho2, hless⟩ := twice_parts (twice_ok (k := 10) (by decide) leaf) ho
          have Ho := Lib.hid ho
          have Ho2 := Lib.hid ho2
          have Hle := Lib.hid hless
          have Hsl : Hid (WrSl ((wr.alloc (.cells #[.int .i8 10, .int .i64 0, .int .i64 0, .int .u64 0] 25)).alloc (.cells #[.int .i8 10, .int .i64 0, .int .i64 0, .int .u64 0] 25)) (some ⟨wr.heap.size + 1, 0, none⟩) 1 [wk 10]) := Lib.hid (by have := WrSl.made (wr.alloc (.cells #[.int .i8 10, .int .i64 0, .int .i64 0, .int .u64 0] 25)) [wk 10] #[.int .i8 10, .int .i64 0, .int .i64 0, .int .u64 0] rfl; simpa using this)
          have Hok1 : Hid (∀ x ∈ [wk 10], x.ok) := fun x hx => by rw [List.mem_singleton.1 hx]; exact ⟨by decide, by decide⟩
          have Hok2 : Hid (∀ x ∈ [wk 10, wk 10], x.ok) := fun x hx => by
            rcases List.mem_cons.1 hx with rfl | hx
            · exact ⟨by decide, by decide⟩
            · rw [List.mem_singleton.1 hx]; exact ⟨by decide, by decide⟩
          have e2 : Ext (wr.alloc (.cells #[.int .i8 10, .int .i64 0, .int .i64 0, .int .u64 0] 25)) ((wr.alloc (.cells #[.int .i8 10, .int .i64 0, .int .i64 0, .int .u64 0] 25)).alloc (.cells #[.int .i8 10, .int .i64 0, .int .i64 0, .int .u64 0] 25)) := (Ext.refl _).alloc _
          have HE2 := Lib.hid e2
          clear ho ho2 hless e2
          go_wp2_with fail
          refine (stack_any _ 1 1 [wk 10] leaf _ Hsl.out Hok1.out (by decide)).mono ?_
          rintro e y1 ⟨rfl, hy1⟩
          rw [Ho.out]
          have hb1 := HE2.out.trans hy1
          have b0 : y1.cell? ⟨wr.heap.size, 0, none⟩ = some (.int .i8 10) := hb1.cell_new 0
          have b1 : y1.cell? ⟨wr.heap.size, 1, none⟩ = some (.int .i64 0) := hb1.cell_new 1
          have b2 : y1.cell? ⟨wr.heap.size, 2, none⟩ = some (.int .i64 0) := hb1.cell_new 2
          have b3 : y1.cell? ⟨wr.heap.size, 3, none⟩ = some (.int .u64 0) := hb1.cell_new 3
          have HY1 : Hid (Ext w y1) := HX.out.trans (((Ext.refl wr).alloc _).trans hb1)
          clear hb1 hy1
          go_wp2_with fail
          refine (stack_any _ 2 2 [wk 10, wk 10] leaf _ (WrSl.made y1 [wk 10, wk 10] _ rfl) Hok2.out (by decide)).mono ?_
          rintro e y2 ⟨rfl, hy2⟩
          rw [Ho2.out]
          have HY2 : Hid (Ext w y2) := HY1.out.trans (((Ext.refl y1).alloc _).trans hy2)
          clear hy2 b0 b1 b2 b3
          by_cases hoe : oe = 0
          · have hl2 := Hle.out hoe
            subst hoe
            have hl3 : lessB oa leaf = true := hl2.resolve_left (by decide)
            clear hl2
            go_wp2_with fail
            refine (less_any oa leaf (by omega) hlf y2).mono ?_
            rintro e y3 ⟨rfl, rfl⟩
            rw [hl3]
            go_wp2_with fail
            go_roundw
            case rel => exact ⟨4, by omega, by go_num, HY2.out⟩
            case measure => simp [intOf]
          · have q2 : (oe == 0) = false := beq_eq_false_iff_ne.2 hoe
            go_wp2_with fail
            go_roundw
            case rel => exact ⟨4, by omega, by go_num, HY2.out⟩
            case measure => simp [intOf]
        · obtain ⟨oa, oe, ho⟩ : ∃ (oa : Nat) (oe : Int), stackN [wk 7] leaf = (oa, oe) := ⟨_, _, rfl⟩
          have hoa : oa < 16 := by have := stack_lt [wk 7] leaf; rw [ho] at this; exact this
          obtain ⟨ho2, hless⟩ := twice_parts (twice_ok (k := 7) (by decide) leaf) ho
          have Ho := Lib.hid ho
          have Ho2 := Lib.hid ho2
          have Hle := Lib.hid hless
          have Hsl : Hid (WrSl ((wr.alloc (.cells #[.int .i8 7, .int .i64 0, .int .i64 0, .int .u64 0] 25)).alloc (.cells #[.int .i8 7, .int .i64 0, .int .i64 0, .int .u64 0] 25)) (some ⟨wr.heap.size + 1, 0, none⟩) 1 [wk 7]) := Lib.hid (by have := WrSl.made (wr.alloc (.cells #[.int .i8 7, .int .i64 0, .int .i64 0, .int .u64 0] 25)) [wk 7] #[.int .i8 7, .int .i64 0, .int .i64 0, .int .u64 0] rfl; simpa using this)
          have Hok1 : Hid (∀ x ∈ [wk 7], x.ok) := fun x hx => by rw [List.mem_singleton.1 hx]; exact ⟨by decide, by decide⟩
          have Hok2 : Hid (∀ x ∈ [wk 7, wk 7], x.ok) := fun x hx => by
            rcases List.mem_cons.1 hx with rfl | hx
            · exact ⟨by decide, by decide⟩
            · rw [List.mem_singleton.1 hx]; exact ⟨by decide, by decide⟩
          have e2 : Ext (wr.alloc (.cells #[.int .i8 7, .int .i64 0, .int .i64 0, .int .u64 0] 25)) ((wr.alloc (.cells #[.int .i8 7, .int .i64 0, .int .i64 0, .int .u64 0] 25)).alloc (.cells #[.int .i8 7, .int .i64 0, .int .i64 0, .int .u64 0] 25)) := (Ext.refl _).alloc _
          have HE2 := Lib.hid e2
          clear ho ho2 hless e2
          go_wp2_with fail
          refine (stack_any _ 1 1 [wk 7] leaf _ Hsl.out Hok1.out (by decide)).mono ?_
          rintro e y1 ⟨rfl, hy1⟩
          rw [Ho.out]
          have hb1 := HE2.out.trans hy1
          have b0 : y1.cell? ⟨wr.heap.size, 0, none⟩ = some (.int .i8 7) := hb1.cell_new 0
          have b1 : y1.cell? ⟨wr.heap.size, 1, none⟩ = some (.int .i64 0) := hb1.cell_new 1
          have b2 : y1.cell? ⟨wr.heap.size, 2, none⟩ = some (.int .i64 0) := hb1.cell_new 2
          have b3 : y1.cell? ⟨wr.heap.size, 3, none⟩ = some (.int .u64 0) := hb1.cell_new 3
          have HY1 : Hid (Ext w y1) := HX.out.trans (((Ext.refl wr).alloc _).trans hb1)
          clear hb1 hy1
          go_wp2_with fail
          refine (stack_any _ 2 2 [wk 7, wk 7] leaf _ (WrSl.made y1 [wk 7, wk 7] _ rfl) Hok2.out (by decide)).mono ?_
          rintro e y2 ⟨rfl, hy2⟩
          rw [Ho2.out]
          have HY2 : Hid (Ext w y2) := HY1.out.trans (((Ext.refl y1).alloc _).trans hy2)
          clear hy2 b0 b1 b2 b3
          by_cases hoe : oe = 0
          · have hl2 := Hle.out hoe
            subst hoe
            have hl3 : lessB oa leaf = true := hl2.resolve_left (by decide)
            clear hl2
            go_wp2_with fail
            refine (less_any oa leaf (by omega) hlf y2).mono ?_
            rintro e y3 ⟨rfl, rfl⟩
            rw [hl3]
            go_wp2_with fail
            go_roundw
            case rel => exact ⟨5, by omega, by go_num, HY2.out⟩
            case measure => simp [intOf]
          · have q2 : (oe == 0) = false := beq_eq_false_iff_ne.2 hoe
            go_wp2_with fail
            go_roundw
            case rel => exact ⟨5, by omega, by go_num, HY2.out⟩
            case measure => simp [intOf]
        · obtain ⟨oa, oe, ho⟩ : ∃ (oa : Nat) (oe : Int), stackN [wk 4] leaf = (oa, oe) := ⟨_, _, rfl⟩
          have hoa : oa < 16 := by have := stack_lt [wk 4] leaf; rw [ho] at this; exact this
          obtain ⟨ho2, hless⟩ := twice_parts (twice_ok (k := 4) (by decide) leaf) ho
          have Ho := Lib.hid ho
          have Ho2 := Lib.hid ho2
          have Hle := Lib.hid hless
          have Hsl : Hid (WrSl ((wr.alloc (.cells #[.int .i8 4, .int .i64 0, .int .i64 0, .int .u64 0] 25)).alloc (.cells #[.int .i8 4, .int .i64 0, .int .i64 0, .int .u64 0] 25)) (some ⟨wr.heap.size + 1, 0, none⟩) 1 [wk 4]) := Lib.hid (by have := WrSl.made (wr.alloc (.cells #[.int .i8 4, .int .i64 0, .int .i64 0, .int .u64 0] 25)) [wk 4] #[.int .i8 4, .int .i64 0, .int .i64 0, .int .u64 0] rfl; simpa using this)
          have Hok1 : Hid (∀ x ∈ [wk 4], x.ok) := fun x hx => by rw [List.mem_singleton.1 hx]; exact ⟨by decide, by decide⟩
          have Hok2 : Hid (∀ x ∈ [wk 4, wk 4], x.ok) := fun x hx => by
            rcases List.mem_cons.1 hx with rfl | hx
            · exact ⟨by decide, by decide⟩
            · rw [List.mem_singleton.1 hx]; exact ⟨by decide, by decide⟩
          have e2 : Ext (wr.alloc (.cells #[.int .i8 4, .int .i64 0, .int .i64 0, .int .u64 0] 25)) ((wr.alloc (.cells #[.int .i8 4, .int .i64 0, .int .i64 0, .int .u64 0] 25)).alloc (.cells #[.int .i8 4, .int .i64 0, .int .i64 0, .int .u64 0] 25)) := (Ext.refl _).alloc _
          have HE2 := Lib.hid e2
          clear ho ho2 hless e2
          go_wp2_with fail
          refine (stack_any _ 1 1 [wk 4] leaf _ Hsl.out Hok1.out (by decide)).mono ?_
          rintro e y1 ⟨rfl, hy1⟩
          rw [Ho.out]
          have hb1 := HE2.out.trans hy1
          have b0 : y1.cell? ⟨wr.heap.size, 0, none⟩ = some (.int .i8 4) := hb1.cell_new 0
          have b1 : y1.cell? ⟨wr.heap.size, 1, none⟩ = some (.int .i64 0) := hb1.cell_new 1
          have b2 : y1.cell? ⟨wr.heap.size, 2, none⟩ = some (.int .i64 0) := hb1.cell_new 2
          have b3 : y1.cell? ⟨wr.heap.size, 3, none⟩ = some (.int .u64 0) := hb1.cell_new 3
          have HY1 : Hid (Ext w y1) := HX.out.trans (((Ext.refl wr).alloc _).trans hb1)
          clear hb1 hy1
          go_wp2_with fail
          refine (stack_any _ 2 2 [wk 4, wk 4] leaf _ (WrSl.made y1 [wk 4, wk 4] _ rfl) Hok2.out (by decide)).mono ?_
          rintro e y2 ⟨rfl, hy2⟩
          rw [Ho2.out]
          have HY2 : Hid (Ext w y2) := HY1.out.trans (((Ext.refl y1).alloc _).trans hy2)
          clear hy2 b0 b1 b2 b3
          by_cases hoe : oe = 0
          · have hl2 := Hle.out hoe
            subst hoe
            clear hl2
            go_wp2_with fail
            go_roundw
            case rel => exact ⟨6, by omega, by go_num, HY2.out⟩
            case measure => simp [intOf]
          · have q2 : (oe == 0) = false := beq_eq_false_iff_ne.2 hoe
            go_wp2_with fail
            go_roundw
            case rel => exact ⟨6, by omega, by go_num, HY2.out⟩
            case measure => simp [intOf]
      · go_wp2_with fail
        go_ret
        exact ⟨rfl, HX.out⟩
  · have q1 : (se == 0) = false := beq_eq_false_iff_ne.2 hse
    clear hfold HS HS' HS2 HX0 HX1 HX01 HX2 HX3 HX4 Hsv Hsw Hsx
    go_wp2_with fail
    go_loopw [59] (fun i wr => ∃ k : Nat, k ≤ 6 ∧ i = .int .i64 k ∧ Ext w wr) (fun i _ => 6 - (intOf i).toNat)
    case atStart => exact ⟨0, Nat.zero_le _, rfl, HX5.out⟩
    case round =>
      obtain ⟨k, hk, rfl, hx⟩ := hrel
      have HX := Lib.hid hx
      clear hx
      by_cases hlt : k < 6
      · rcases (by omega : k = 0 ∨ k = 1 ∨ k = 2 ∨ k = 3 ∨ k = 4 ∨ k = 5) with rfl | rfl | rfl | rfl | rfl | rfl
        · obtain ⟨oa, oe, ho⟩ : ∃ (oa : Nat) (oe : Int), stackN [wk 0] leaf = (oa, oe) := ⟨_, _, rfl⟩
          have hoa : oa < 16 := by have := stack_lt [wk 0] leaf; rw [ho] at this; exact this
          obtain ⟨ho2, hless⟩ := twice_parts (twice_ok (k := 0) (by decide) leaf) ho
          have Ho := Lib.hid ho
          have Ho2 := Lib.hid ho2
          have Hle := Lib.hid hless
          have Hsl : Hid (WrSl ((wr.alloc (.cells #[.int .i8 0, .int .i64 0, .int .i64 0, .int .u64 0] 25)).alloc (.cells #[.int .i8 0, .int .i64 0, .int .i64 0, .int .u64 0] 25)) (some ⟨wr.heap.size + 1, 0, none⟩) 1 [wk 0]) := Lib.hid (by have := WrSl.made (wr.alloc (.cells #[.int .i8 0, .int .i64 0, .int .i64 0, .int .u64 0] 25)) [wk 0] #[.int .i8 0, .int .i64 0, .int .i64 0, .int .u64 0] rfl; simpa using this)
          have Hok1 : Hid (∀ x ∈ [wk 0], x.ok) := fun x hx => by rw [List.mem_singleton.1 hx]; exact ⟨by decide, by decide⟩
          have Hok2 : Hid (∀ x ∈ [wk 0, wk 0], x.ok) := fun x hx => by
            rcases List.mem_cons.1 hx with rfl | hx
            · exact ⟨by decide, by decide⟩
            · rw [List.mem_singleton.1 hx]; exact ⟨by decide, by decide⟩
          have e2 : Ext (wr.alloc (.cells #[.int .i8 0, .int .i64 0, .int .i64 0, .int .u64 0] 25)) ((wr.alloc (.cells #[.int .i8 0, .int .i64 0, .int .i64 0, .int .u64 0] 25)).alloc (.cells #[.int .i8 0, .int .i64 0, .int .i64 0, .int .u64 0] 25)) := (Ext.refl _).alloc _
          have HE2 := Lib.hid e2
          clear ho ho2 hless e2
          go_wp2_with fail
          refine (stack_any _ 1 1 [wk 0] leaf _ Hsl.out Hok1.out (by decide)).mono ?_
          rintro e y1 ⟨rfl, hy1⟩
          rw [Ho.out]
          have hb1 := HE2.out.trans hy1
          have b0 : y1.cell? ⟨wr.heap.size, 0, none⟩ = some (.int .i8 0) := hb1.cell_new 0
          have b1 : y1.cell? ⟨wr.heap.size, 1, none⟩ = some (.int .i64 0) := hb1.cell_new 1
          have b2 : y1.cell? ⟨wr.heap.size, 2, none⟩ = some (.int .i64 0) := hb1.cell_new 2
          have b3 : y1.cell? ⟨wr.heap.size, 3, none⟩ = some (.int .u64 0) := hb1.cell_new 3
          have HY1 : Hid (Ext w y1) := HX.out.trans (((Ext.refl wr).alloc _).trans hb1)
          clear hb1 hy1
          go_wp2_with fail
          refine (stack_any _ 2 2 [wk 0, wk 0] leaf _ (WrSl.made y1 [wk 0, wk 0] _ rfl) Hok2.out (by decide)).mono ?_
          rintro e y2 ⟨rfl, hy2⟩
          rw [Ho2.out]
          have HY2 : Hid (Ext w y2) := HY1.out.trans (((Ext.refl y1).alloc _).trans hy2)
          clear hy2 b0 b1 b2 b3
          by_cases hoe : oe = 0
          · have hl2 := Hle.out hoe
            subst hoe
            have hl3 : lessB oa leaf = true := hl2.resolve_left (by decide)
            clear hl2
            go_wp2_with fail
            refine (less_any oa leaf (by omega) hlf y2).mono ?_
            rintro e y3 ⟨rfl, rfl⟩
            rw [hl3]
            go_wp2_with fail
            go_roundw
            case rel => exact ⟨1, by omega, by go_num, HY2.out⟩
            case measure => simp [intOf]
          · have q2 : (oe == 0) = false := beq_eq_false_iff_ne.2 hoe
            go_wp2_with fail
            go_roundw
            case rel => exact ⟨1, by omega, by go_num, HY2.out⟩
            case measure => simp [intOf]
        · obtain ⟨oa, oe, ho⟩ : ∃ (oa : Nat) (oe : Int), stackN [wk 3] leaf = (oa, oe) := ⟨_, _, rfl⟩
          have hoa : oa < 16 := by have := stack_lt [wk 3] leaf; rw [ho] at this; exact this
          obtain ⟨ho2, hless⟩ := twice_parts (twice_ok (k := 3) (by decide) leaf) ho
          have Ho := Lib.hid ho
          have Ho2 := Lib.hid ho2
          have Hle := Lib.hid hless
          have Hsl : Hid (WrSl ((wr.alloc (.cells #[.int .i8 3, .int .i64 0, .int .i64 0, .int .u64 0] 25)).alloc (.cells #[.int .i8 3, .int .i64 0, .int .i64 0, .int .u64 0] 25)) (some ⟨wr.heap.size + 1, 0, none⟩) 1 [wk 3]) := Lib.hid (by have := WrSl.made (wr.alloc (.cells #[.int .i8 3, .int .i64 0, .int .i64 0, .int .u64 0] 25)) [wk 3] #[.int .i8 3, .int .i64 0, .int .i64 0, .int .u64 0] rfl; simpa using this)
          have Hok1 : Hid (∀ x ∈ [wk 3], x.ok) := fun x hx => by rw [List.mem_singleton.1 hx]; exact ⟨by decide, by decide⟩
          have Hok2 : Hid (∀ x ∈ [wk 3, wk 3], x.ok) := fun x hx => by
            rcases List.mem_cons.1 hx with rfl | hx
            · exact ⟨by decide, by decide⟩
            · rw [List.mem_singleton.1 hx]; exact ⟨by decide, by decide⟩
          have e2 : Ext (wr.alloc (.cells #[.int .i8 3, .int .i64 0, .int .i64 0, .int .u64 0] 25)) ((wr.alloc (.cells #[.int .i8 3, .int .i64 0, .int .i64 0, .int .u64 0] 25)).alloc (.cells #[.int .i8 3, .int .i64 0, .int .i64 0, .int .u64 0] 25)) := (Ext.refl _).alloc _
          have HE2 := Lib.hid e2
          clear ho ho2 hless e2
          go_wp2_with fail
          refine (stack_any _ 1 1 [wk 3] leaf _ Hsl.out Hok1.out (by decide)).mono ?_
          rintro e y1 ⟨rfl, hy1⟩
          rw [Ho.out]
          have hb1 := HE2.out.trans hy1
          have b0 : y1.cell? ⟨wr.heap.size, 0, none⟩ = some (.int .i8 3) := hb1.cell_new 0
          have b1 : y1.cell? ⟨wr.heap.size, 1, none⟩ = some (.int .i64 0) := hb1.cell_new 1
          have b2 : y1.cell? ⟨wr.heap.size, 2, none⟩ = some (.int .i64 0) := hb1.cell_new 2
          have b3 : y1.cell? ⟨wr.heap.size, 3, none⟩ = some (.int .u64 0) := hb1.cell_new 3
          have HY1 : Hid (Ext w y1) := HX.out.trans (((Ext.refl wr).alloc _).trans hb1)
          clear hb1 hy1
          go_wp2_with fail
          refine (stack_any _ 2 2 [wk 3, wk 3] leaf _ (WrSl.made y1 [wk 3, wk 3] _ rfl) Hok2.out (by decide)).mono ?_
          rintro e y2 ⟨rfl, hy2⟩
          rw [Ho2.out]
          have HY2 : Hid (Ext w y2) := HY1.out.trans (((Ext.refl y1).alloc _).trans hy2)
          clear hy2 b0 b1 b2 b3
          by_cases hoe : oe = 0
          · have hl2 := Hle.out hoe
            subst hoe
            have hl3 : lessB oa leaf = true := hl2.resolve_left (by decide)
            clear hl2
            go_wp2_with fail
            refine (less_any oa leaf (by omega) hlf y2).mono ?_
            rintro e y3 ⟨rfl, rfl⟩
            rw [hl3]
            go_wp2_with fail
            go_roundw
            case rel => exact ⟨2, by omega, by go_num, HY2.out⟩
            case measure => simp [intOf]
          · have q2 : (oe == 0) = false := beq_eq_false_iff_ne.2 hoe
            go_wp2_with fail
            go_roundw
            case rel => exact ⟨2, by omega, by go_num, HY2.out⟩
            case measure => simp [intOf]
        · obtain ⟨oa, oe, ho⟩ : ∃ (oa : Nat) (oe : Int), stackN [wk 9] leaf = (oa, oe) := ⟨_, _, rfl⟩
          have hoa : oa < 16 := by have := stack_lt [wk 9] leaf; rw [ho] at this; exact this
          obtain ⟨ho2, hless⟩ := twice_parts (twice_ok (k := 9) (by decide) leaf) ho
          have Ho := Lib.hid ho
          have Ho2 := Lib.hid ho2
          have Hle := Lib.hid hless
          have Hsl : Hid (WrSl ((wr.alloc (.cells #[.int .i8 9, .int .i64 0, .int .i64 0, .int .u64 0] 25)).alloc (.cells #[.int .i8 9, .int .i64 0, .int .i64 0, .int .u64 0] 25)) (some ⟨wr.heap.size + 1, 0, none⟩) 1 [wk 9]) := Lib.hid (by have := WrSl.made (wr.alloc (.cells #[.int .i8 9, .int .i64 0, .int .i64 0, .int .u64 0] 25)) [wk 9] #[.int .i8 9, .int .i64 0, .int .i64 0, .int .u64 0] rfl; simpa using this)
          have Hok1 : Hid (∀ x ∈ [wk 9], x.ok) := fun x hx => by rw [List.mem_singleton.1 hx]; exact ⟨by decide, by decide⟩
          have Hok2 : Hid (∀ x ∈ [wk 9, wk 9], x.ok) := fun x hx => by
            rcases List.mem_cons.1 hx with rfl | hx
            · exact ⟨by decide, by decide⟩
            · rw [List.mem_singleton.1 hx]; exact ⟨by decide, by decide⟩
          have e2 : Ext (wr.alloc (.cells #[.int .i8 9, .int .i64 0, .int .i64 0, .int .u64 0] 25)) ((wr.alloc (.cells #[.int .i8 9, .int .i64 0, .int .i64 0, .int .u64 0] 25)).alloc (.cells #[.int .i8 9, .int .i64 0, .int .i64 0, .int .u64 0] 25)) := (Ext.refl _).alloc _
          have HE2 := Lib.hid e2
          clear ho ho2 hless e2
          go_wp2_with fail
          refine (stack_any _ 1 1 [wk 9] leaf _ Hsl.out Hok1.out (by decide)).mono ?_
          rintro e y1 ⟨rfl, hy1⟩
          rw [Ho.out]
          have hb1 := HE2.out.trans hy1
          have b0 : y1.cell? ⟨wr.heap.size, 0, none⟩ = some (.int .i8 9) := hb1.cell_new 0
          have b1 : y1.cell? ⟨wr.heap.size, 1, none⟩ = some (.int .i64 0) := hb1.cell_new 1
          have b2 : y1.cell? ⟨wr.heap.size, 2, none⟩ = some (.int .i64 0) := hb1.cell_new 2
          have b3 : y1.cell? ⟨wr.heap.size, 3, none⟩ = some (.int .u64 0) := hb1.cell_new 3
          have HY1 : Hid (Ext w y1) := HX.out.trans (((Ext.refl wr).alloc _).trans hb1)
          clear hb1 hy1
          go_wp2_with fail
          refine (stack_any _ 2 2 [wk 9, wk 9] leaf _ (WrSl.made y1 [wk 9, wk 9] _ rfl) Hok2.out (by decide)).mono ?_
          rintro e y2 ⟨rfl, hy2⟩
          rw [Ho2.out]
          have HY2 : Hid (Ext w y2) := HY1.out.trans (((Ext.refl y1).alloc _).trans hy2)
          clear hy2 b0 b1 b2 b3
          by_cases hoe : oe = 0
          · have hl2 := Hle.out hoe
            subst hoe
            have hl3 : lessB oa leaf = true := hl2.resolve_left (by decide)
            clear hl2
            go_wp2_with fail
            refine (less_any oa leaf (by omega) hlf y2).mono ?_
            rintro e y3 ⟨rfl, rfl⟩
            rw [hl3]
            go_wp2_with fail
            go_roundw
            case rel => exact ⟨3, by omega, by go_num, HY2.out⟩
            case measure => simp [intOf]
          · have q2 : (oe == 0) = false := beq_eq_false_iff_ne.2 hoe
            go_wp2_with fail
            go_roundw
            case rel => exact ⟨3, by omega, by go_num, HY2.out⟩
            case measure => simp [intOf]
        · obtain ⟨oa, oe, ho⟩ : ∃ (oa : Nat) (oe : Int), stackN [wk 10] leaf = (oa, oe) := ⟨_, _, rfl⟩
          have hoa : oa < 16 := by have := stack_lt [wk 10] leaf; rw [ho] at this; exact this
          obtain ⟨ho2, hless⟩ := twice_parts (twice_ok (k := 10) (by decide) leaf) ho
          have Ho := Lib.hid ho
          have Ho2 := Lib.hid ho2
          have Hle := Lib.hid hless
          have Hsl : Hid (WrSl ((wr.alloc (.cells #[.int .i8 10, .int .i64 0, .int .i64 0, .int .u64 0] 25)).alloc (.cells #[.int .i8 10, .int .i64 0, .int .i64 0, .int .u64 0] 25)) (some ⟨wr.heap.size + 1, 0, none⟩) 1 [wk 10]) := Lib.hid (by have := WrSl.made (wr.alloc (.cells #[.int .i8 10, .int .i64 0, .int .i64 0, .int .u64 0] 25)) [wk 10] #[.int .i8 10, .int .i64 0, .int .i64 0, .int .u64 0] rfl; simpa using this)
          have Hok1 : Hid (∀ x ∈ [wk 10], x.ok) := fun x hx => by rw [List.mem_singleton.1 hx]; exact ⟨by decide, by decide⟩
          have Hok2 : Hid (∀ x ∈ [wk 10, wk 10], x.ok) := fun x hx => by
            rcases List.mem_cons.1 hx with rfl | hx
            · exact ⟨by decide, by decide⟩
            · rw [List.mem_singleton.1 hx]; exact ⟨by decide, by decide⟩
          have e2 : Ext (wr.alloc (.cells #[.int .i8 10, .int .i64 0, .int .i64 0, .int .u64 0] 25)) ((wr.alloc (.cells #[.int .i8 10, .int .i64 0, .int .i64 0, .int .u64 0] 25)).alloc (.cells #[.int .i8 10, .int .i64 0, .int .i64 0, .int .u64 0] 25)) := (Ext.refl _).alloc _
          have HE2 := Lib.hid e2
          clear ho ho2 hless e2
          go_wp2_with fail
          refine (stack_any _ 1 1 [wk 10] leaf _ Hsl.out Hok1.out (by decide)).mono ?_
          rintro e y1 ⟨rfl, hy1⟩
          rw [Ho.out]
          have hb1 := HE2.out.trans hy1
          have b0 : y1.cell? ⟨wr.heap.size, 0, none⟩ = some (.int .i8 10) := hb1.cell_new 0
          have b1 : y1.cell? ⟨wr.heap.size, 1, none⟩ = some (.int .i64 0) := hb1.cell_new 1
          have b2 : y1.cell? ⟨wr.heap.size, 2, none⟩ = some (.int .i64 0) := hb1.cell_new 2
          have b3 : y1.cell? ⟨wr.heap.size, 3, none⟩ = some (.int .u64 0) := hb1.cell_new 3
          have HY1 : Hid (Ext w y1) := HX.out.trans (((Ext.refl wr).alloc _).trans hb1)
          clear hb1 hy1
          go_wp2_with fail
          refine (stack_any _ 2 2 [wk 10, wk 10] leaf _ (WrSl.made y1 [wk 10, wk 10] _ rfl) Hok2.out (by decide)).mono ?_
          rintro e y2 ⟨rfl, hy2⟩
          rw [Ho2.out]
          have HY2 : Hid (Ext w y2) := HY1.out.trans (((Ext.refl y1).alloc _).trans hy2)
          clear hy2 b0 b1 b2 b3
          by_cases hoe : oe = 0
          · have hl2 := Hle.out hoe
            subst hoe
            have hl3 : lessB oa leaf = true := hl2.resolve_left (by decide)
            clear hl2
            go_wp2_with fail
            refine (less_any oa leaf (by omega) hlf y2).mono ?_
            rintro e y3 ⟨rfl, rfl⟩
            rw [hl3]
            go_wp2_with fail
            go_roundw
            case rel => exact ⟨4, by omega, by go_num, HY2.out⟩
            case measure => simp [intOf]
          · have q2 : (oe == 0) = false := beq_eq_false_iff_ne.2 hoe
            go_wp2_with fail
            go_roundw
            case rel => exact ⟨4, by omega, by go_num, HY2.out⟩
            case measure => simp [intOf]
        · obtain ⟨oa, oe, ho⟩ : ∃ (oa : Nat) (oe : Int), stackN [wk 7] leaf = (oa, oe) := ⟨_, _, rfl⟩
          have hoa : oa < 16 := by have := stack_lt [wk 7] leaf; rw [ho] at this; exact this
          obtain ⟨ho2, hless⟩ := twice_parts (twice_ok (k := 7) (by decide) leaf) ho
          have Ho := Lib.hid ho
          have Ho2 := Lib.hid ho2
          have Hle := Lib.hid hless
          have Hsl : Hid (WrSl ((wr.alloc (.cells #[.int .i8 7, .int .i64 0, .int .i64 0, .int .u64 0] 25)).alloc (.cells #[.int .i8 7, .int .i64 0, .int .i64 0, .int .u64 0] 25)) (some ⟨wr.heap.size + 1, 0, none⟩) 1 [wk 7]) := Lib.hid (by have := WrSl.made (wr.alloc (.cells #[.int .i8 7, .int .i64 0, .int .i64 0, .int .u64 0] 25)) [wk 7] #[.int .i8 7, .int .i64 0, .int .i64 0, .int .u64 0] rfl; simpa using this)
          have Hok1 : Hid (∀ x ∈ [wk 7], x.ok) := fun x hx => by rw [List.mem_singleton.1 hx]; exact ⟨by decide, by decide⟩
          have Hok2 : Hid (∀ x ∈ [wk 7, wk 7], x.ok) := fun x hx => by
            rcases List.mem_cons.1 hx with rfl | hx
            · exact ⟨by decide, by decide⟩
            · rw [List.mem_singleton.1 hx]; exact ⟨by decide, by decide⟩
          have e2 : Ext (wr.alloc (.cells #[.int .i8 7, .int .i64 0, .int .i64 0, .int .u64 0] 25)) ((wr.alloc (.cells #[.int .i8 7, .int .i64 0, .int .i64 0, .int .u64 0] 25)).alloc (.cells #[.int .i8 7, .int .i64 0, .int .i64 0, .int .u64 0] 25)) := (Ext.refl _).alloc _
          have HE2 := Lib.hid e2
          clear ho ho2 hless e2
          go_wp2_with fail
          refine (stack_any _ 1 1 [wk 7] leaf _ Hsl.out Hok1.out (by decide)).mono ?_
          rintro e y1 ⟨rfl, hy1⟩
          rw [Ho.out]
          have hb1 := HE2.out.trans hy1
          have b0 : y1.cell? ⟨wr.heap.size, 0, none⟩ = some (.int .i8 7) := hb1.cell_new 0
          have b1 : y1.cell? ⟨wr.heap.size, 1, none⟩ = some (.int .i64 0) := hb1.cell_new 1
          have b2 : y1.cell? ⟨wr.heap.size, 2, none⟩ = some (.int .i64 0) := hb1.cell_new 2
          have b3 : y1.cell? ⟨wr.heap.size, 3, none⟩ = some (.int .u64 0) := hb1.cell_new 3
          have HY1 : Hid (Ext w y1) := HX.out.trans (((Ext.refl wr).alloc _).trans hb1)
          clear hb1 hy1
          go_wp2_with fail
          refine (stack_any _ 2 2 [wk 7, wk 7] leaf _ (WrSl.made y1 [wk 7, wk 7] _ rfl) Hok2.out (by decide)).mono ?_
          rintro e y2 ⟨rfl, hy2⟩
          rw [Ho2.out]
          have HY2 : Hid (Ext w y2) := HY1.out.trans (((Ext.refl y1).alloc _).trans hy2)
          clear hy2 b0 b1 b2 b3
          by_cases hoe : oe = 0
          · have hl2 := Hle.out hoe
            subst hoe
            have hl3 : lessB oa leaf = true := hl2.resolve_left (by decide)
            clear hl2
            go_wp2_with fail
            refine (less_any oa leaf (by omega) hlf y2).mono ?_
            rintro e y3 ⟨rfl, rfl⟩
            rw [hl3]
            go_wp2_with fail
            go_roundw
            case rel => exact ⟨5, by omega, by go_num, HY2.out⟩
            case measure => simp [intOf]
          · have q2 : (oe == 0) = false := beq_eq_false_iff_ne.2 hoe
            go_wp2_with fail
            go_roundw
            case rel => exact ⟨5, by omega, by go_num, HY2.out⟩
            case measure => simp [intOf]
        · obtain ⟨oa, oe, ho⟩ : ∃ (oa : Nat) (oe : Int), stackN [wk 4] leaf = (oa, oe) := ⟨_, _, rfl⟩
          have hoa : oa < 16 := by have := stack_lt [wk 4] leaf; rw [ho] at this; exact this
          obtain ⟨ho2, hless⟩ := twice_parts (twice_ok (k := 4) (by decide) leaf) ho
          have Ho := Lib.hid ho
          have Ho2 := Lib.hid ho2
          have Hle := Lib.hid hless
          have Hsl : Hid (WrSl ((wr.alloc (.cells #[.int .i8 4, .int .i64 0, .int .i64 0, .int .u64 0] 25)).alloc (.cells #[.int .i8 4, .int .i64 0, .int .i64 0, .int .u64 0] 25)) (some ⟨wr.heap.size + 1, 0, none⟩) 1 [wk 4]) := Lib.hid (by have := WrSl.made (wr.alloc (.cells #[.int .i8 4, .int .i64 0, .int .i64 0, .int .u64 0] 25)) [wk 4] #[.int .i8 4, .int .i64 0, .int .i64 0, .int .u64 0] rfl; simpa using this)
          have Hok1 : Hid (∀ x ∈ [wk 4], x.ok) := fun x hx => by rw [List.mem_singleton.1 hx]; exact ⟨by decide, by decide⟩
          have Hok2 : Hid (∀ x ∈ [wk 4, wk 4], x.ok) := fun x hx => by
            rcases List.mem_cons.1 hx with rfl | hx
            · exact ⟨by decide, by decide⟩
            · rw [List.mem_singleton.1 hx]; exact ⟨by decide, by decide⟩
          have e2 : Ext (wr.alloc (.cells #[.int .i8 4, .int .i64 0, .int .i64 0, .int .u64 0] 25)) ((wr.alloc (.cells #[.int .i8 4, .int .i64 0, .int .i64 0, .int .u64 0] 25)).alloc (.cells #[.int .i8 4, .int .i64 0, .int .i64 0, .int .u64 0] 25)) := (Ext.refl _).alloc _
          have HE2 := Lib.hid e2
          clear ho ho2 hless e2
          go_wp2_with fail
          refine (stack_any _ 1 1 [wk 4] leaf _ Hsl.out Hok1.out (by decide)).mono ?_
          rintro e y1 ⟨rfl, hy1⟩
          rw [Ho.out]
          have hb1 := HE2.out.trans hy1
          have b0 : y1.cell? ⟨wr.heap.size, 0, none⟩ = some (.int .i8 4) := hb1.cell_new 0
          have b1 : y1.cell? ⟨wr.heap.size, 1, none⟩ = some (.int .i64 0) := hb1.cell_new 1
          have b2 : y1.cell? ⟨wr.heap.size, 2, none⟩ = some (.int .i64 0) := hb1.cell_new 2
          have b3 : y1.cell? ⟨wr.heap.size, 3, none⟩ = some (.int .u64 0) := hb1.cell_new 3
          have HY1 : Hid (Ext w y1) := HX.out.trans (((Ext.refl wr).alloc _).trans hb1)
          clear hb1 hy1
          go_wp2_with fail
          refine (stack_any _ 2 2 [wk 4, wk 4] leaf _ (WrSl.made y1 [wk 4, wk 4] _ rfl) Hok2.out (by decide)).mono ?_
          rintro e y2 ⟨rfl, hy2⟩
          rw [Ho2.out]
          have HY2 : Hid (Ext w y2) := HY1.out.trans (((Ext.refl y1).alloc _).trans hy2)
          clear hy2 b0 b1 b2 b3
          by_cases hoe : oe = 0
          · have hl2 := Hle.out hoe
            subst hoe
            clear hl2
            go_wp2_with fail
            go_roundw
            case rel => exact ⟨6, by omega, by go_num, HY2.out⟩
            case measure => simp [intOf]
          · have q2 : (oe == 0) = false := beq_eq_false_iff_ne.2 hoe
            go_wp2_with fail
            go_roundw
            case rel => exact ⟨6, by omega, by go_num, HY2.out⟩
            case measure => simp [intOf]
      · go_wp2_with fail
        go_ret
        exact ⟨rfl, HX.out⟩
end Go.Proofs.Ytbicaejpckcfbaa
