/- The statement CapsBack walked. -/
import Derived.Test.YtbicaejpckcfbaaDoorH
import Derived.Test.YtbicaejpckcfbaaDoorN
namespace Go.Proofs.YtbicaejpckcfbaaDoor
open Go.RowKit

def bitsN (a : Nat) : Nat → Nat
  | 0 => 0
  | k + 1 => bitsN a k + a / 2 ^ k % 2
theorem back_fin : ∀ a : Fin 16, (allN a.val).length = 2 ^ bitsN a.val 4 ∧ bitsN a.val 4 ≤ 4 ∧ (∀ x ∈ allN a.val, lessB x a.val = true ∧ x < 16) ∧ (allN a.val).Pairwise (· < ·) := by decide +kernel
theorem both_fin : ∀ a b : Fin 16, (allN a.val).filter (fun x => lessB x b.val) = allN (a.val &&& b.val) := by decide +kernel
theorem and15 (a : Nat) : a &&& 15 < 16 := Nat.lt_of_le_of_lt Nat.and_le_right (by decide)
theorem wrap_pow64 {f : Nat} (hf : f ≤ 4) : wrap64 (2 ^ f : Int) = ((2 ^ f : Nat) : Int) := by
  have h : ∀ f : Fin 5, IntKind.i64.wrap (2 ^ f.val : Int) = ((2 ^ f.val : Nat) : Int) := by decide
  rw [← IntWalk.i64_left]
  exact h ⟨f, by omega⟩
theorem bitsN_le (a : Nat) : ∀ k, bitsN a k ≤ k
  | 0 => Nat.le_refl _
  | k + 1 => by have := bitsN_le a k; unfold bitsN; omega
theorem ParsePost.is {s : ByteArray} {w w' : World} {e : Ending} {a : Nat} (h : ParsePost s w e w') (hp : parseN s = (a, none)) : e = .returned (.tuple #[.int .u8 (a : Int), .nilIface]) ∧ Ext w w' := by
  rcases h.2 with ⟨_, h2⟩ | ⟨_, _, _, h2, _⟩
  · rw [hp] at h2; exact ⟨h2, h.1⟩
  · rw [hp] at h2; cases h2
def selBoth (A B k : Nat) : List Nat := ((allN A).take k).filter fun x => lessB x B
theorem selBoth_len (A B k : Nat) : (selBoth A B k).length ≤ 16 := by
  have h1 := List.length_filter_le (fun x => lessB x B) ((allN A).take k)
  have h2 := List.length_take_le' k (allN A)
  have h3 := allN_len A
  unfold selBoth
  omega
theorem selBoth_succ {A B k x : Nat} (h : (allN A)[k]? = some x) : selBoth A B (k + 1) = selBoth A B k ++ (if lessB x B then [x] else []) := by
  obtain ⟨h1, h2⟩ := List.getElem?_eq_some_iff.1 h
  unfold selBoth
  rw [List.take_succ_eq_append_getElem h1, h2, List.filter_append]
  congr 1
  cases h : lessB x B <;> simp [h]
theorem selBoth_all (A B : Nat) : selBoth A B (allN A).length = (allN A).filter fun x => lessB x B := by unfold selBoth; rw [List.take_length]
theorem sorted_lt {l : List Nat} {k x y : Nat} (h : l.Pairwise (· < ·)) (hy : l[k]? = some y) (hx : l[k + 1]? = some x) : y < x := by
  obtain ⟨h1, rfl⟩ := List.getElem?_eq_some_iff.1 hy
  obtain ⟨h2, rfl⟩ := List.getElem?_eq_some_iff.1 hx
  exact List.pairwise_iff_getElem.1 h k (k + 1) h1 h2 (by omega)

set_option maxRecDepth 20000 in
set_option maxHeartbeats 16000000 in
theorem capsBack_walk (a b : Nat) (s : ByteArray) (m : Int) (w : World) (ha : a < 256) (hb : b < 256) (hs : s.size ≤ 1048576) (hm : w.cell? ⟨1, 0, none⟩ = some (.int .i64 m)) :
    Calls Tryd.prog 3 #[.int .u8 (a : Int), .int .u8 (b : Int), .string s] w fun e w' => e = .returned (.bool true) ∧ Ext w w' := by
  have HM : Hid (∀ wx, Ext w wx → wx.cell? ⟨1, 0, none⟩ = some (.int .i64 m)) := Lib.hid (fun wx hx => hx.cell_some hm)
  clear hm
  obtain ⟨A, hA⟩ : ∃ A, a &&& 15 = A := ⟨_, rfl⟩
  obtain ⟨B, hB⟩ : ∃ B, b &&& 15 = B := ⟨_, rfl⟩
  have hA16 : A < 16 := hA ▸ and15 a
  have hB16 : B < 16 := hB ▸ and15 b
  have hba : bits BinOp.and IntKind.u8 (a : Int) 15 = (A : Int) := by rw [← hA]; exact bits_and8 (b := 15) ha (by decide)
  have hbb : bits BinOp.and IntKind.u8 (b : Int) 15 = (B : Int) := by rw [← hB]; exact bits_and8 (b := 15) hb (by decide)
  have hab : bits BinOp.and IntKind.u8 (A : Int) (B : Int) = ((A &&& B : Nat) : Int) := bits_and16 hA16 hB16
  clear hA hB
  obtain ⟨f1, f2, f3, f4⟩ := back_fin ⟨A, hA16⟩
  simp only at f1 f2 f3 f4
  have F1 := Lib.hid f1
  have F3 := Lib.hid f3
  have F4 := Lib.hid f4
  have F2 : Hid (True ∧ bitsN A 4 ≤ 4) := ⟨trivial, f2⟩
  clear f1 f2 f3 f4
  have HB : Hid ((allN A).filter (fun x => lessB x B) = allN (A &&& B)) := both_fin ⟨A, hA16⟩ ⟨B, hB16⟩
  obtain ⟨i, hi, hz, hsz, hby⟩ := info_parts Tryd.info5
  go_enter Tryd.func3, Tryd.ntmps3
  go_wp2_with fail
  refine (works_any _).mono ?_
  rintro e w1 ⟨rfl, hx1⟩
  have HX1 := Lib.hid hx1
  clear hx1
  by_cases h16 : a < 16
  · have hp := text_parse ⟨a, h16⟩
    simp only at hp
    have HP := Lib.hid hp
    have hts : (textN a).size ≤ 1048576 := by
      have h : ∀ a : Fin 16, (textN a.val).size ≤ 1048576 := by decide +kernel
      exact h ⟨a, h16⟩
    have Hts := Lib.hid hts
    clear hp hts
    go_wp2_with fail
    refine (text_any a _).mono ?_
    rintro e w2 ⟨rfl, hx2⟩
    have HX2 := Lib.hid (HX1.out.trans hx2)
    clear hx2
    go_wp2_with fail
    refine (parse_any (textN a) m _ Hts.out (HM.out _ HX2.out)).mono ?_
    intro e w3 hpp
    obtain ⟨rfl, hx3⟩ := hpp.is HP.out
    have HX3 := Lib.hid (HX2.out.trans hx3)
    clear hx3 hpp
    go_wp2_with fail
    refine (parse_any s m _ hs (HM.out _ HX3.out)).mono ?_
    rintro e w5 ⟨hx4, hres⟩
    have HX4 := Lib.hid (HX3.out.trans hx4)
    clear hx4
    rcases hres with ⟨hn, rfl⟩ | ⟨pos, wd, bb, hn, rfl, -, -⟩
    · obtain ⟨x, hx⟩ : ∃ x, (parseN s).1 = x := ⟨_, rfl⟩
      have HT : Hid (x < 16 ∧ textN x = s) := parse_text (by rw [← hx, ← hn])
      rw [hx]
      have hx15 := HT.out.1
      clear hx hn
      go_wp2_with fail
      all_goals try (exfalso; omega)
      refine (text_any x _).mono ?_
      rintro e w5 ⟨rfl, hx5⟩
      rw [HT.out.2]
      have HX5 := Lib.hid (HX4.out.trans hx5)
      clear hx5
      go_wp2_with fail
      go_loopw [11, 55] (fun bv iv wr => ∃ j : Nat, j ≤ 4 ∧ iv = .int .i64 (j : Int) ∧ bv = .int .i64 (bitsN A j : Int) ∧ Ext w5 wr) (fun _ iv _ => 4 - (intOf iv).toNat)
      case atStart => exact ⟨0, Nat.zero_le _, rfl, rfl, Ext.refl _⟩
      case round =>
        obtain ⟨j, hj, rfl, rfl, hy⟩ := hrel
        have HY := Lib.hid (HX5.out.trans hy)
        have HY5 := Lib.hid hy
        clear hy
        have hbl := bitsN_le A j
        by_cases hj4 : j < 4
        · have hb1 := bit_val ⟨A, hA16⟩ ⟨j, hj4⟩
          simp only at hb1
          have hsu : bitsN A (j + 1) = bitsN A j + A / 2 ^ j % 2 := rfl
          obtain ⟨d, hd⟩ : ∃ d : Nat, A / 2 ^ j % 2 = d := ⟨_, rfl⟩
          rw [hd] at hb1 hsu
          have hd2 : d = 0 ∨ d = 1 := by omega
          have Hsu := Lib.hid hsu
          obtain ⟨bn, hbn⟩ : ∃ n, bitsN A j = n := ⟨_, rfl⟩
          have Hbn := Lib.hid hbn
          rw [hbn] at hbl ⊢
          clear hd hsu hbn
          rcases hd2 with rfl | rfl
          all_goals
            go_wp2_with fail
            go_roundw
            case rel => exact ⟨j + 1, by omega, by go_num, by rw [Hsu.out, Hbn.out]; go_num, HY5.out⟩
            case measure => simp [intOf]; omega
        · obtain rfl : j = 4 := by omega
          obtain ⟨N, hN⟩ : ∃ n, bitsN A 4 = n := ⟨_, rfl⟩
          have hl1 := F1.out
          have hN4 := F2.out.2
          rw [hN] at hl1 hN4 ⊢
          have hpw : wrap64 ((2 : Int) ^ min N 64) = ((2 ^ N : Nat) : Int) := by rw [Nat.min_eq_left (by omega)]; exact wrap_pow64 hN4
          rw [← hl1] at hpw
          have hln := allN_len A
          clear hN hl1 hN4 hbl
          obtain ⟨n, hn⟩ : ∃ n, (allN A).length = n := ⟨_, rfl⟩
          rw [hn] at hpw hln
          have Hn := Lib.hid hn
          go_wp2_with fail
          refine (all_any A (by omega) _).mono ?_
          rintro e w6 ⟨A1, c1, rfl, hx6, ho6, hl6⟩
          rw [hn]
          rw [hn] at ho6 hl6
          have HSl : Hid (SetSl w6 A1 n (allN A)) := Lib.hid (by have := own_sets (by rw [hn]; exact ho6 : Own w6 5 1 (.slice A1 (allN A).length c1) (allN A).length (u8s (allN A))); rwa [hn] at this)
          have HX6 := Lib.hid (HY.out.trans hx6)
          clear hx6 ho6 hl6 hn
          go_wp2_with fail
          clear hpw
          go_loopw [14, 75] (fun bv iv wr => ∃ (k : Nat) (A2 : Option Addr) (c2 : Nat), k ≤ n ∧ iv = .int .i64 (k : Int) ∧ bv = .slice A2 (selBoth A B k).length c2 ∧ Mine w6 wr (.slice A2 (selBoth A B k).length c2) (selBoth A B k)) (fun _ iv _ => n - (intOf iv).toNat)
          case atStart => exact ⟨0, none, 0, Nat.zero_le _, rfl, rfl, Mine.nil w6⟩
          case round =>
            obtain ⟨k, A2, c2, hk, rfl, rfl, hMi⟩ := hrel
            have hsl := selBoth_len A B k
            obtain ⟨sl, hsle⟩ : ∃ l, (selBoth A B k).length = l := ⟨_, rfl⟩
            rw [hsle] at hsl hMi ⊢
            have HMi := Lib.hid hMi
            have Hsle := Lib.hid hsle
            have HO : Hid (Own wr 5 1 (.slice A2 sl c2) sl (u8s (selBoth A B k))) := Lib.hid (by have := hMi.2.1; rwa [hsle] at this)
            clear hMi hsle
            by_cases hlt : k < n
            · obtain ⟨g, off, x, rfl, -, hxk, k0⟩ := (HSl.out.ext HMi.out.1).at hlt
              have d0 := k0 _ (Ext.refl _)
              have hx1 := F3.out x (List.mem_of_getElem? hxk)
              have hx16 := hx1.2
              have Hlx : Hid (lessB x A = true) := hx1.1
              have Hxk := Lib.hid hxk
              clear hx1 hxk
              have hpre : k = 0 ∨ ∃ k' y, k = k' + 1 ∧ (y : Nat) < x ∧ wr.cell? ⟨g, off + k', none⟩ = some (.int .u8 (y : Int)) := by
                rcases k with _ | k'
                · exact .inl rfl
                · obtain ⟨g', off', y, hgo, -, hyk, k1⟩ := (HSl.out.ext HMi.out.1).at (k := k') (Nat.lt_of_succ_lt hlt)
                  injection hgo with hgo
                  injection hgo with hg1 hg2
                  subst hg1 hg2
                  exact .inr ⟨k', y, rfl, sorted_lt F4.out hyk Hxk.out, k1 _ (Ext.refl _)⟩
              have Hsu := Lib.hid (selBoth_succ Hxk.out (B := B))
              cases hlB : lessB x B with
              | true =>
                rw [hlB] at Hsu
                have HlB := Lib.hid hlB
                clear hlB
                rcases hpre with rfl | ⟨k', y, rfl, hyx, d1⟩
                all_goals
                  try simp only [Nat.add_zero] at d0
                  go_wp2_with fail
                  refine (less_any x A (by omega) (by omega) wr).mono ?_
                  rintro e w7 ⟨rfl, rfl⟩
                  rw [Hlx.out]
                  go_wp2_with fail
                  refine (less_any x B (by omega) (by omega) w7).mono ?_
                  rintro e w8 ⟨rfl, rfl⟩
                  rw [HlB.out]
                  go_wp2_with (at_builtin; refine wpList_append_own_any _ rfl (.tmp 100) (.tmp 102) 28 rfl 5 i _ 1 1 Tryd.underlying28 hi hz hsz hby rfl (by decide) (.slice A2 sl c2) sl (u8s (selBoth A B _)) rfl (HO.out.ext ((Ext.refl _).alloc _)) (some ⟨w8.heap.size, 0, none⟩) 1 1 (u8s [x]) rfl rfl (fun _ => ⟨_, rfl, new_cells _ _ _⟩) (u8s_one [x]) (by unfold maxLen; omega) (by omega) ?_)
                  intro v' w9 ho hg hv'
                  have HN := Lib.hid (HMi.out.push _ (by rw [Hsle.out]; exact ho) hg (by simpa using hv'))
                  obtain ⟨A', c', rfl, -, -⟩ := ho.form
                  clear ho hg hv'
                  go_wp2_with fail
                  go_roundw
                  case rel => exact ⟨_ + 1, A', c', hlt, by go_num, by rw [Hsu.out]; simp [Hsle.out], by rw [Hsu.out]; simpa [Hsle.out] using HN.out⟩
                  case measure => simp [intOf]; omega
              | false =>
                rw [hlB] at Hsu
                have HlB := Lib.hid hlB
                clear hlB
                rcases hpre with rfl | ⟨k', y, rfl, hyx, d1⟩
                all_goals
                  try simp only [Nat.add_zero] at d0
                  go_wp2_with fail
                  refine (less_any x A (by omega) (by omega) wr).mono ?_
                  rintro e w7 ⟨rfl, rfl⟩
                  rw [Hlx.out]
                  go_wp2_with fail
                  refine (less_any x B (by omega) (by omega) w7).mono ?_
                  rintro e w8 ⟨rfl, rfl⟩
                  rw [HlB.out]
                  go_wp2_with fail
                  go_roundw
                  case rel => exact ⟨_ + 1, A2, c2, hlt, by go_num, by rw [Hsu.out]; simp [Hsle.out], by rw [Hsu.out]; simpa [Hsle.out] using HMi.out⟩
                  case measure => simp [intOf]; omega
            · have hke : k = n := Nat.le_antisymm hk (Nat.not_lt.1 hlt)
              have He : Hid (selBoth A B k = allN (A &&& B)) := by show _ = _; rw [hke, ← Hn.out, selBoth_all]; exact HB.out
              clear hke
              rw [He.out] at HMi Hsle
              clear HO
              go_wp2_with fail
              refine (all_any (A &&& B) (by have : A &&& B ≤ A := Nat.and_le_left; omega) _).mono ?_
              rintro e w7 ⟨A3, c3, rfl, hx7, ho7, -⟩
              have HS3 := Lib.hid (own_sets ho7)
              have HS2 : Hid (SetSl w7 A2 (allN (A &&& B)).length (allN (A &&& B))) := Lib.hid (own_sets (by have := HMi.out.2.1.ext hx7; rw [Hsle.out]; rwa [Hsle.out] at this))
              have HX7 := Lib.hid (HX6.out.trans (HMi.out.1.trans hx7))
              clear hx7 ho7
              rw [Hsle.out]
              rw [Hsle.out] at HS2 HS3
              go_wp2_with fail
              refine (same_any A2 A3 sl c2 c3 (allN (A &&& B)) w7 HS2.out HS3.out (by omega)).mono ?_
              rintro e w8 ⟨rfl, hx8⟩
              go_wp2_with fail
              go_ret
              exact ⟨rfl, HX7.out.trans hx8⟩
    · have HX5 := HX4
      clear hn
      go_wp2_with fail
      go_loopw [11, 55] (fun bv iv wr => ∃ j : Nat, j ≤ 4 ∧ iv = .int .i64 (j : Int) ∧ bv = .int .i64 (bitsN A j : Int) ∧ Ext w5 wr) (fun _ iv _ => 4 - (intOf iv).toNat)
      case atStart => exact ⟨0, Nat.zero_le _, rfl, rfl, Ext.refl _⟩
      case round =>
        obtain ⟨j, hj, rfl, rfl, hy⟩ := hrel
        have HY := Lib.hid (HX5.out.trans hy)
        have HY5 := Lib.hid hy
        clear hy
        have hbl := bitsN_le A j
        by_cases hj4 : j < 4
        · have hb1 := bit_val ⟨A, hA16⟩ ⟨j, hj4⟩
          simp only at hb1
          have hsu : bitsN A (j + 1) = bitsN A j + A / 2 ^ j % 2 := rfl
          obtain ⟨d, hd⟩ : ∃ d : Nat, A / 2 ^ j % 2 = d := ⟨_, rfl⟩
          rw [hd] at hb1 hsu
          have hd2 : d = 0 ∨ d = 1 := by omega
          have Hsu := Lib.hid hsu
          obtain ⟨bn, hbn⟩ : ∃ n, bitsN A j = n := ⟨_, rfl⟩
          have Hbn := Lib.hid hbn
          rw [hbn] at hbl ⊢
          clear hd hsu hbn
          rcases hd2 with rfl | rfl
          all_goals
            go_wp2_with fail
            go_roundw
            case rel => exact ⟨j + 1, by omega, by go_num, by rw [Hsu.out, Hbn.out]; go_num, HY5.out⟩
            case measure => simp [intOf]; omega
        · obtain rfl : j = 4 := by omega
          obtain ⟨N, hN⟩ : ∃ n, bitsN A 4 = n := ⟨_, rfl⟩
          have hl1 := F1.out
          have hN4 := F2.out.2
          rw [hN] at hl1 hN4 ⊢
          have hpw : wrap64 ((2 : Int) ^ min N 64) = ((2 ^ N : Nat) : Int) := by rw [Nat.min_eq_left (by omega)]; exact wrap_pow64 hN4
          rw [← hl1] at hpw
          have hln := allN_len A
          clear hN hl1 hN4 hbl
          obtain ⟨n, hn⟩ : ∃ n, (allN A).length = n := ⟨_, rfl⟩
          rw [hn] at hpw hln
          have Hn := Lib.hid hn
          go_wp2_with fail
          refine (all_any A (by omega) _).mono ?_
          rintro e w6 ⟨A1, c1, rfl, hx6, ho6, hl6⟩
          rw [hn]
          rw [hn] at ho6 hl6
          have HSl : Hid (SetSl w6 A1 n (allN A)) := Lib.hid (by have := own_sets (by rw [hn]; exact ho6 : Own w6 5 1 (.slice A1 (allN A).length c1) (allN A).length (u8s (allN A))); rwa [hn] at this)
          have HX6 := Lib.hid (HY.out.trans hx6)
          clear hx6 ho6 hl6 hn
          go_wp2_with fail
          clear hpw
          go_loopw [14, 75] (fun bv iv wr => ∃ (k : Nat) (A2 : Option Addr) (c2 : Nat), k ≤ n ∧ iv = .int .i64 (k : Int) ∧ bv = .slice A2 (selBoth A B k).length c2 ∧ Mine w6 wr (.slice A2 (selBoth A B k).length c2) (selBoth A B k)) (fun _ iv _ => n - (intOf iv).toNat)
          case atStart => exact ⟨0, none, 0, Nat.zero_le _, rfl, rfl, Mine.nil w6⟩
          case round =>
            obtain ⟨k, A2, c2, hk, rfl, rfl, hMi⟩ := hrel
            have hsl := selBoth_len A B k
            obtain ⟨sl, hsle⟩ : ∃ l, (selBoth A B k).length = l := ⟨_, rfl⟩
            rw [hsle] at hsl hMi ⊢
            have HMi := Lib.hid hMi
            have Hsle := Lib.hid hsle
            have HO : Hid (Own wr 5 1 (.slice A2 sl c2) sl (u8s (selBoth A B k))) := Lib.hid (by have := hMi.2.1; rwa [hsle] at this)
            clear hMi hsle
            by_cases hlt : k < n
            · obtain ⟨g, off, x, rfl, -, hxk, k0⟩ := (HSl.out.ext HMi.out.1).at hlt
              have d0 := k0 _ (Ext.refl _)
              have hx1 := F3.out x (List.mem_of_getElem? hxk)
              have hx16 := hx1.2
              have Hlx : Hid (lessB x A = true) := hx1.1
              have Hxk := Lib.hid hxk
              clear hx1 hxk
              have hpre : k = 0 ∨ ∃ k' y, k = k' + 1 ∧ (y : Nat) < x ∧ wr.cell? ⟨g, off + k', none⟩ = some (.int .u8 (y : Int)) := by
                rcases k with _ | k'
                · exact .inl rfl
                · obtain ⟨g', off', y, hgo, -, hyk, k1⟩ := (HSl.out.ext HMi.out.1).at (k := k') (Nat.lt_of_succ_lt hlt)
                  injection hgo with hgo
                  injection hgo with hg1 hg2
                  subst hg1 hg2
                  exact .inr ⟨k', y, rfl, sorted_lt F4.out hyk Hxk.out, k1 _ (Ext.refl _)⟩
              have Hsu := Lib.hid (selBoth_succ Hxk.out (B := B))
              cases hlB : lessB x B with
              | true =>
                rw [hlB] at Hsu
                have HlB := Lib.hid hlB
                clear hlB
                rcases hpre with rfl | ⟨k', y, rfl, hyx, d1⟩
                all_goals
                  try simp only [Nat.add_zero] at d0
                  go_wp2_with fail
                  refine (less_any x A (by omega) (by omega) wr).mono ?_
                  rintro e w7 ⟨rfl, rfl⟩
                  rw [Hlx.out]
                  go_wp2_with fail
                  refine (less_any x B (by omega) (by omega) w7).mono ?_
                  rintro e w8 ⟨rfl, rfl⟩
                  rw [HlB.out]
                  go_wp2_with (at_builtin; refine wpList_append_own_any _ rfl (.tmp 100) (.tmp 102) 28 rfl 5 i _ 1 1 Tryd.underlying28 hi hz hsz hby rfl (by decide) (.slice A2 sl c2) sl (u8s (selBoth A B _)) rfl (HO.out.ext ((Ext.refl _).alloc _)) (some ⟨w8.heap.size, 0, none⟩) 1 1 (u8s [x]) rfl rfl (fun _ => ⟨_, rfl, new_cells _ _ _⟩) (u8s_one [x]) (by unfold maxLen; omega) (by omega) ?_)
                  intro v' w9 ho hg hv'
                  have HN := Lib.hid (HMi.out.push _ (by rw [Hsle.out]; exact ho) hg (by simpa using hv'))
                  obtain ⟨A', c', rfl, -, -⟩ := ho.form
                  clear ho hg hv'
                  go_wp2_with fail
                  go_roundw
                  case rel => exact ⟨_ + 1, A', c', hlt, by go_num, by rw [Hsu.out]; simp [Hsle.out], by rw [Hsu.out]; simpa [Hsle.out] using HN.out⟩
                  case measure => simp [intOf]; omega
              | false =>
                rw [hlB] at Hsu
                have HlB := Lib.hid hlB
                clear hlB
                rcases hpre with rfl | ⟨k', y, rfl, hyx, d1⟩
                all_goals
                  try simp only [Nat.add_zero] at d0
                  go_wp2_with fail
                  refine (less_any x A (by omega) (by omega) wr).mono ?_
                  rintro e w7 ⟨rfl, rfl⟩
                  rw [Hlx.out]
                  go_wp2_with fail
                  refine (less_any x B (by omega) (by omega) w7).mono ?_
                  rintro e w8 ⟨rfl, rfl⟩
                  rw [HlB.out]
                  go_wp2_with fail
                  go_roundw
                  case rel => exact ⟨_ + 1, A2, c2, hlt, by go_num, by rw [Hsu.out]; simp [Hsle.out], by rw [Hsu.out]; simpa [Hsle.out] using HMi.out⟩
                  case measure => simp [intOf]; omega
            · have hke : k = n := Nat.le_antisymm hk (Nat.not_lt.1 hlt)
              have He : Hid (selBoth A B k = allN (A &&& B)) := by show _ = _; rw [hke, ← Hn.out, selBoth_all]; exact HB.out
              clear hke
              rw [He.out] at HMi Hsle
              clear HO
              go_wp2_with fail
              refine (all_any (A &&& B) (by have : A &&& B ≤ A := Nat.and_le_left; omega) _).mono ?_
              rintro e w7 ⟨A3, c3, rfl, hx7, ho7, -⟩
              have HS3 := Lib.hid (own_sets ho7)
              have HS2 : Hid (SetSl w7 A2 (allN (A &&& B)).length (allN (A &&& B))) := Lib.hid (own_sets (by have := HMi.out.2.1.ext hx7; rw [Hsle.out]; rwa [Hsle.out] at this))
              have HX7 := Lib.hid (HX6.out.trans (HMi.out.1.trans hx7))
              clear hx7 ho7
              rw [Hsle.out]
              rw [Hsle.out] at HS2 HS3
              go_wp2_with fail
              refine (same_any A2 A3 sl c2 c3 (allN (A &&& B)) w7 HS2.out HS3.out (by omega)).mono ?_
              rintro e w8 ⟨rfl, hx8⟩
              go_wp2_with fail
              go_ret
              exact ⟨rfl, HX7.out.trans hx8⟩
  · have HX3 := HX1
    go_wp2_with fail
    refine (parse_any s m _ hs (HM.out _ HX3.out)).mono ?_
    rintro e w5 ⟨hx4, hres⟩
    have HX4 := Lib.hid (HX3.out.trans hx4)
    clear hx4
    rcases hres with ⟨hn, rfl⟩ | ⟨pos, wd, bb, hn, rfl, -, -⟩
    · obtain ⟨x, hx⟩ : ∃ x, (parseN s).1 = x := ⟨_, rfl⟩
      have HT : Hid (x < 16 ∧ textN x = s) := parse_text (by rw [← hx, ← hn])
      rw [hx]
      have hx15 := HT.out.1
      clear hx hn
      go_wp2_with fail
      all_goals try (exfalso; omega)
      refine (text_any x _).mono ?_
      rintro e w5 ⟨rfl, hx5⟩
      rw [HT.out.2]
      have HX5 := Lib.hid (HX4.out.trans hx5)
      clear hx5
      go_wp2_with fail
      go_loopw [11, 55] (fun bv iv wr => ∃ j : Nat, j ≤ 4 ∧ iv = .int .i64 (j : Int) ∧ bv = .int .i64 (bitsN A j : Int) ∧ Ext w5 wr) (fun _ iv _ => 4 - (intOf iv).toNat)
      case atStart => exact ⟨0, Nat.zero_le _, rfl, rfl, Ext.refl _⟩
      case round =>
        obtain ⟨j, hj, rfl, rfl, hy⟩ := hrel
        have HY := Lib.hid (HX5.out.trans hy)
        have HY5 := Lib.hid hy
        clear hy
        have hbl := bitsN_le A j
        by_cases hj4 : j < 4
        · have hb1 := bit_val ⟨A, hA16⟩ ⟨j, hj4⟩
          simp only at hb1
          have hsu : bitsN A (j + 1) = bitsN A j + A / 2 ^ j % 2 := rfl
          obtain ⟨d, hd⟩ : ∃ d : Nat, A / 2 ^ j % 2 = d := ⟨_, rfl⟩
          rw [hd] at hb1 hsu
          have hd2 : d = 0 ∨ d = 1 := by omega
          have Hsu := Lib.hid hsu
          obtain ⟨bn, hbn⟩ : ∃ n, bitsN A j = n := ⟨_, rfl⟩
          have Hbn := Lib.hid hbn
          rw [hbn] at hbl ⊢
          clear hd hsu hbn
          rcases hd2 with rfl | rfl
          all_goals
            go_wp2_with fail
            go_roundw
            case rel => exact ⟨j + 1, by omega, by go_num, by rw [Hsu.out, Hbn.out]; go_num, HY5.out⟩
            case measure => simp [intOf]; omega
        · obtain rfl : j = 4 := by omega
          obtain ⟨N, hN⟩ : ∃ n, bitsN A 4 = n := ⟨_, rfl⟩
          have hl1 := F1.out
          have hN4 := F2.out.2
          rw [hN] at hl1 hN4 ⊢
          have hpw : wrap64 ((2 : Int) ^ min N 64) = ((2 ^ N : Nat) : Int) := by rw [Nat.min_eq_left (by omega)]; exact wrap_pow64 hN4
          rw [← hl1] at hpw
          have hln := allN_len A
          clear hN hl1 hN4 hbl
          obtain ⟨n, hn⟩ : ∃ n, (allN A).length = n := ⟨_, rfl⟩
          rw [hn] at hpw hln
          have Hn := Lib.hid hn
          go_wp2_with fail
          refine (all_any A (by omega) _).mono ?_
          rintro e w6 ⟨A1, c1, rfl, hx6, ho6, hl6⟩
          rw [hn]
          rw [hn] at ho6 hl6
          have HSl : Hid (SetSl w6 A1 n (allN A)) := Lib.hid (by have := own_sets (by rw [hn]; exact ho6 : Own w6 5 1 (.slice A1 (allN A).length c1) (allN A).length (u8s (allN A))); rwa [hn] at this)
          have HX6 := Lib.hid (HY.out.trans hx6)
          clear hx6 ho6 hl6 hn
          go_wp2_with fail
          clear hpw
          go_loopw [14, 75] (fun bv iv wr => ∃ (k : Nat) (A2 : Option Addr) (c2 : Nat), k ≤ n ∧ iv = .int .i64 (k : Int) ∧ bv = .slice A2 (selBoth A B k).length c2 ∧ Mine w6 wr (.slice A2 (selBoth A B k).length c2) (selBoth A B k)) (fun _ iv _ => n - (intOf iv).toNat)
          case atStart => exact ⟨0, none, 0, Nat.zero_le _, rfl, rfl, Mine.nil w6⟩
          case round =>
            obtain ⟨k, A2, c2, hk, rfl, rfl, hMi⟩ := hrel
            have hsl := selBoth_len A B k
            obtain ⟨sl, hsle⟩ : ∃ l, (selBoth A B k).length = l := ⟨_, rfl⟩
            rw [hsle] at hsl hMi ⊢
            have HMi := Lib.hid hMi
            have Hsle := Lib.hid hsle
            have HO : Hid (Own wr 5 1 (.slice A2 sl c2) sl (u8s (selBoth A B k))) := Lib.hid (by have := hMi.2.1; rwa [hsle] at this)
            clear hMi hsle
            by_cases hlt : k < n
            · obtain ⟨g, off, x, rfl, -, hxk, k0⟩ := (HSl.out.ext HMi.out.1).at hlt
              have d0 := k0 _ (Ext.refl _)
              have hx1 := F3.out x (List.mem_of_getElem? hxk)
              have hx16 := hx1.2
              have Hlx : Hid (lessB x A = true) := hx1.1
              have Hxk := Lib.hid hxk
              clear hx1 hxk
              have hpre : k = 0 ∨ ∃ k' y, k = k' + 1 ∧ (y : Nat) < x ∧ wr.cell? ⟨g, off + k', none⟩ = some (.int .u8 (y : Int)) := by
                rcases k with _ | k'
                · exact .inl rfl
                · obtain ⟨g', off', y, hgo, -, hyk, k1⟩ := (HSl.out.ext HMi.out.1).at (k := k') (Nat.lt_of_succ_lt hlt)
                  injection hgo with hgo
                  injection hgo with hg1 hg2
                  subst hg1 hg2
                  exact .inr ⟨k', y, rfl, sorted_lt F4.out hyk Hxk.out, k1 _ (Ext.refl _)⟩
              have Hsu := Lib.hid (selBoth_succ Hxk.out (B := B))
              cases hlB : lessB x B with
              | true =>
                rw [hlB] at Hsu
                have HlB := Lib.hid hlB
                clear hlB
                rcases hpre with rfl | ⟨k', y, rfl, hyx, d1⟩
                all_goals
                  try simp only [Nat.add_zero] at d0
                  go_wp2_with fail
                  refine (less_any x A (by omega) (by omega) wr).mono ?_
                  rintro e w7 ⟨rfl, rfl⟩
                  rw [Hlx.out]
                  go_wp2_with fail
                  refine (less_any x B (by omega) (by omega) w7).mono ?_
                  rintro e w8 ⟨rfl, rfl⟩
                  rw [HlB.out]
                  go_wp2_with (at_builtin; refine wpList_append_own_any _ rfl (.tmp 100) (.tmp 102) 28 rfl 5 i _ 1 1 Tryd.underlying28 hi hz hsz hby rfl (by decide) (.slice A2 sl c2) sl (u8s (selBoth A B _)) rfl (HO.out.ext ((Ext.refl _).alloc _)) (some ⟨w8.heap.size, 0, none⟩) 1 1 (u8s [x]) rfl rfl (fun _ => ⟨_, rfl, new_cells _ _ _⟩) (u8s_one [x]) (by unfold maxLen; omega) (by omega) ?_)
                  intro v' w9 ho hg hv'
                  have HN := Lib.hid (HMi.out.push _ (by rw [Hsle.out]; exact ho) hg (by simpa using hv'))
                  obtain ⟨A', c', rfl, -, -⟩ := ho.form
                  clear ho hg hv'
                  go_wp2_with fail
                  go_roundw
                  case rel => exact ⟨_ + 1, A', c', hlt, by go_num, by rw [Hsu.out]; simp [Hsle.out], by rw [Hsu.out]; simpa [Hsle.out] using HN.out⟩
                  case measure => simp [intOf]; omega
              | false =>
                rw [hlB] at Hsu
                have HlB := Lib.hid hlB
                clear hlB
                rcases hpre with rfl | ⟨k', y, rfl, hyx, d1⟩
                all_goals
                  try simp only [Nat.add_zero] at d0
                  go_wp2_with fail
                  refine (less_any x A (by omega) (by omega) wr).mono ?_
                  rintro e w7 ⟨rfl, rfl⟩
                  rw [Hlx.out]
                  go_wp2_with fail
                  refine (less_any x B (by omega) (by omega) w7).mono ?_
                  rintro e w8 ⟨rfl, rfl⟩
                  rw [HlB.out]
                  go_wp2_with fail
                  go_roundw
                  case rel => exact ⟨_ + 1, A2, c2, hlt, by go_num, by rw [Hsu.out]; simp [Hsle.out], by rw [Hsu.out]; simpa [Hsle.out] using HMi.out⟩
                  case measure => simp [intOf]; omega
            · have hke : k = n := Nat.le_antisymm hk (Nat.not_lt.1 hlt)
              have He : Hid (selBoth A B k = allN (A &&& B)) := by show _ = _; rw [hke, ← Hn.out, selBoth_all]; exact HB.out
              clear hke
              rw [He.out] at HMi Hsle
              clear HO
              go_wp2_with fail
              refine (all_any (A &&& B) (by have : A &&& B ≤ A := Nat.and_le_left; omega) _).mono ?_
              rintro e w7 ⟨A3, c3, rfl, hx7, ho7, -⟩
              have HS3 := Lib.hid (own_sets ho7)
              have HS2 : Hid (SetSl w7 A2 (allN (A &&& B)).length (allN (A &&& B))) := Lib.hid (own_sets (by have := HMi.out.2.1.ext hx7; rw [Hsle.out]; rwa [Hsle.out] at this))
              have HX7 := Lib.hid (HX6.out.trans (HMi.out.1.trans hx7))
              clear hx7 ho7
              rw [Hsle.out]
              rw [Hsle.out] at HS2 HS3
              go_wp2_with fail
              refine (same_any A2 A3 sl c2 c3 (allN (A &&& B)) w7 HS2.out HS3.out (by omega)).mono ?_
              rintro e w8 ⟨rfl, hx8⟩
              go_wp2_with fail
              go_ret
              exact ⟨rfl, HX7.out.trans hx8⟩
    · have HX5 := HX4
      clear hn
      go_wp2_with fail
      go_loopw [11, 55] (fun bv iv wr => ∃ j : Nat, j ≤ 4 ∧ iv = .int .i64 (j : Int) ∧ bv = .int .i64 (bitsN A j : Int) ∧ Ext w5 wr) (fun _ iv _ => 4 - (intOf iv).toNat)
      case atStart => exact ⟨0, Nat.zero_le _, rfl, rfl, Ext.refl _⟩
      case round =>
        obtain ⟨j, hj, rfl, rfl, hy⟩ := hrel
        have HY := Lib.hid (HX5.out.trans hy)
        have HY5 := Lib.hid hy
        clear hy
        have hbl := bitsN_le A j
        by_cases hj4 : j < 4
        · have hb1 := bit_val ⟨A, hA16⟩ ⟨j, hj4⟩
          simp only at hb1
          have hsu : bitsN A (j + 1) = bitsN A j + A / 2 ^ j % 2 := rfl
          obtain ⟨d, hd⟩ : ∃ d : Nat, A / 2 ^ j % 2 = d := ⟨_, rfl⟩
          rw [hd] at hb1 hsu
          have hd2 : d = 0 ∨ d = 1 := by omega
          have Hsu := Lib.hid hsu
          obtain ⟨bn, hbn⟩ : ∃ n, bitsN A j = n := ⟨_, rfl⟩
          have Hbn := Lib.hid hbn
          rw [hbn] at hbl ⊢
          clear hd hsu hbn
          rcases hd2 with rfl | rfl
          all_goals
            go_wp2_with fail
            go_roundw
            case rel => exact ⟨j + 1, by omega, by go_num, by rw [Hsu.out, Hbn.out]; go_num, HY5.out⟩
            case measure => simp [intOf]; omega
        · obtain rfl : j = 4 := by omega
          obtain ⟨N, hN⟩ : ∃ n, bitsN A 4 = n := ⟨_, rfl⟩
          have hl1 := F1.out
          have hN4 := F2.out.2
          rw [hN] at hl1 hN4 ⊢
          have hpw : wrap64 ((2 : Int) ^ min N 64) = ((2 ^ N : Nat) : Int) := by rw [Nat.min_eq_left (by omega)]; exact wrap_pow64 hN4
          rw [← hl1] at hpw
          have hln := allN_len A
          clear hN hl1 hN4 hbl
          obtain ⟨n, hn⟩ : ∃ n, (allN A).length = n := ⟨_, rfl⟩
          rw [hn] at hpw hln
          have Hn := Lib.hid hn
          go_wp2_with fail
          refine (all_any A (by omega) _).mono ?_
          rintro e w6 ⟨A1, c1, rfl, hx6, ho6, hl6⟩
          rw [hn]
          rw [hn] at ho6 hl6
          have HSl : Hid (SetSl w6 A1 n (allN A)) := Lib.hid (by have := own_sets (by rw [hn]; exact ho6 : Own w6 5 1 (.slice A1 (allN A).length c1) (allN A).length (u8s (allN A))); rwa [hn] at this)
          have HX6 := Lib.hid (HY.out.trans hx6)
          clear hx6 ho6 hl6 hn
          go_wp2_with fail
          clear hpw
          go_loopw [14, 75] (fun bv iv wr => ∃ (k : Nat) (A2 : Option Addr) (c2 : Nat), k ≤ n ∧ iv = .int .i64 (k : Int) ∧ bv = .slice A2 (selBoth A B k).length c2 ∧ Mine w6 wr (.slice A2 (selBoth A B k).length c2) (selBoth A B k)) (fun _ iv _ => n - (intOf iv).toNat)
          case atStart => exact ⟨0, none, 0, Nat.zero_le _, rfl, rfl, Mine.nil w6⟩
          case round =>
            obtain ⟨k, A2, c2, hk, rfl, rfl, hMi⟩ := hrel
            have hsl := selBoth_len A B k
            obtain ⟨sl, hsle⟩ : ∃ l, (selBoth A B k).length = l := ⟨_, rfl⟩
            rw [hsle] at hsl hMi ⊢
            have HMi := Lib.hid hMi
            have Hsle := Lib.hid hsle
            have HO : Hid (Own wr 5 1 (.slice A2 sl c2) sl (u8s (selBoth A B k))) := Lib.hid (by have := hMi.2.1; rwa [hsle] at this)
            clear hMi hsle
            by_cases hlt : k < n
            · obtain ⟨g, off, x, rfl, -, hxk, k0⟩ := (HSl.out.ext HMi.out.1).at hlt
              have d0 := k0 _ (Ext.refl _)
              have hx1 := F3.out x (List.mem_of_getElem? hxk)
              have hx16 := hx1.2
              have Hlx : Hid (lessB x A = true) := hx1.1
              have Hxk := Lib.hid hxk
              clear hx1 hxk
              have hpre : k = 0 ∨ ∃ k' y, k = k' + 1 ∧ (y : Nat) < x ∧ wr.cell? ⟨g, off + k', none⟩ = some (.int .u8 (y : Int)) := by
                rcases k with _ | k'
                · exact .inl rfl
                · obtain ⟨g', off', y, hgo, -, hyk, k1⟩ := (HSl.out.ext HMi.out.1).at (k := k') (Nat.lt_of_succ_lt hlt)
                  injection hgo with hgo
                  injection hgo with hg1 hg2
                  subst hg1 hg2
                  exact .inr ⟨k', y, rfl, sorted_lt F4.out hyk Hxk.out, k1 _ (Ext.refl _)⟩
              have Hsu := Lib.hid (selBoth_succ Hxk.out (B := B))
              cases hlB : lessB x B with
              | true =>
                rw [hlB] at Hsu
                have HlB := Lib.hid hlB
                clear hlB
                rcases hpre with rfl | ⟨k', y, rfl, hyx, d1⟩
                all_goals
                  try simp only [Nat.add_zero] at d0
                  go_wp2_with fail
                  refine (less_any x A (by omega) (by omega) wr).mono ?_
                  rintro e w7 ⟨rfl, rfl⟩
                  rw [Hlx.out]
                  go_wp2_with fail
                  refine (less_any x B (by omega) (by omega) w7).mono ?_
                  rintro e w8 ⟨rfl, rfl⟩
                  rw [HlB.out]
                  go_wp2_with (at_builtin; refine wpList_append_own_any _ rfl (.tmp 100) (.tmp 102) 28 rfl 5 i _ 1 1 Tryd.underlying28 hi hz hsz hby rfl (by decide) (.slice A2 sl c2) sl (u8s (selBoth A B _)) rfl (HO.out.ext ((Ext.refl _).alloc _)) (some ⟨w8.heap.size, 0, none⟩) 1 1 (u8s [x]) rfl rfl (fun _ => ⟨_, rfl, new_cells _ _ _⟩) (u8s_one [x]) (by unfold maxLen; omega) (by omega) ?_)
                  intro v' w9 ho hg hv'
                  have HN := Lib.hid (HMi.out.push _ (by rw [Hsle.out]; exact ho) hg (by simpa using hv'))
                  obtain ⟨A', c', rfl, -, -⟩ := ho.form
                  clear ho hg hv'
                  go_wp2_with fail
                  go_roundw
                  case rel => exact ⟨_ + 1, A', c', hlt, by go_num, by rw [Hsu.out]; simp [Hsle.out], by rw [Hsu.out]; simpa [Hsle.out] using HN.out⟩
                  case measure => simp [intOf]; omega
              | false =>
                rw [hlB] at Hsu
                have HlB := Lib.hid hlB
                clear hlB
                rcases hpre with rfl | ⟨k', y, rfl, hyx, d1⟩
                all_goals
                  try simp only [Nat.add_zero] at d0
                  go_wp2_with fail
                  refine (less_any x A (by omega) (by omega) wr).mono ?_
                  rintro e w7 ⟨rfl, rfl⟩
                  rw [Hlx.out]
                  go_wp2_with fail
                  refine (less_any x B (by omega) (by omega) w7).mono ?_
                  rintro e w8 ⟨rfl, rfl⟩
                  rw [HlB.out]
                  go_wp2_with fail
                  go_roundw
                  case rel => exact ⟨_ + 1, A2, c2, hlt, by go_num, by rw [Hsu.out]; simp [Hsle.out], by rw [Hsu.out]; simpa [Hsle.out] using HMi.out⟩
                  case measure => simp [intOf]; omega
            · have hke : k = n := Nat.le_antisymm hk (Nat.not_lt.1 hlt)
              have He : Hid (selBoth A B k = allN (A &&& B)) := by show _ = _; rw [hke, ← Hn.out, selBoth_all]; exact HB.out
              clear hke
              rw [He.out] at HMi Hsle
              clear HO
              go_wp2_with fail
              refine (all_any (A &&& B) (by have : A &&& B ≤ A := Nat.and_le_left; omega) _).mono ?_
              rintro e w7 ⟨A3, c3, rfl, hx7, ho7, -⟩
              have HS3 := Lib.hid (own_sets ho7)
              have HS2 : Hid (SetSl w7 A2 (allN (A &&& B)).length (allN (A &&& B))) := Lib.hid (own_sets (by have := HMi.out.2.1.ext hx7; rw [Hsle.out]; rwa [Hsle.out] at this))
              have HX7 := Lib.hid (HX6.out.trans (HMi.out.1.trans hx7))
              clear hx7 ho7
              rw [Hsle.out]
              rw [Hsle.out] at HS2 HS3
              go_wp2_with fail
              refine (same_any A2 A3 sl c2 c3 (allN (A &&& B)) w7 HS2.out HS3.out (by omega)).mono ?_
              rintro e w8 ⟨rfl, hx8⟩
              go_wp2_with fail
              go_ret
              exact ⟨rfl, HX7.out.trans hx8⟩
end Go.Proofs.YtbicaejpckcfbaaDoor
