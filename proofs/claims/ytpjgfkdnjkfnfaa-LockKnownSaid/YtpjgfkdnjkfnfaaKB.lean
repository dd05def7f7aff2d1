/- The plain values of the statement LockKnown, and contracts that name their values. -/
import Derived.Test.YtpjgfkdnjkfnfaaKA
import Derived.Test.YtpjgfkdnjkfnfaaQ
namespace Go.Proofs.Ytpjgfkdnjkfnfaa
open Go.RowKit Go.Maps

section
variable {w0 w : World} {t : Nat} {G : Nat → Prop} {H W : List Lk} {wa pa na : Int} {sa : Bool}
theorem try_v {r : Int} {H' : List Lk} (hv : Hid (tryF ⟨wa, pa, na, sa⟩ H W = r ∧ tryH ⟨wa, pa, na, sa⟩ H W = H')) (h : Hid (TabB w0 w t H W)) :
    Calls Try.prog 17 #[.pointer (some ⟨t, 0, none⟩), .agg #[.int .i64 wa, .int .i64 pa, .int .i64 na, .bool sa]] w fun e w' => e = .returned (.int .i64 r) ∧ Hid (TabB w0 w' t H' W) := by
  obtain ⟨rfl, rfl⟩ := hv.out
  exact try_b w0 w t H W wa pa na sa h.out
theorem wait_v {r : Bool × Int} {H' W' : List Lk} (hv : Hid (waitF ⟨wa, pa, na, sa⟩ H W = r ∧ waitH ⟨wa, pa, na, sa⟩ H W = (H', W'))) (h : Hid (TabB w0 w t H W)) :
    Calls Try.prog 16 #[.pointer (some ⟨t, 0, none⟩), .agg #[.int .i64 wa, .int .i64 pa, .int .i64 na, .bool sa]] w fun e w' => e = .returned (.tuple #[.bool r.1, .int .i64 r.2]) ∧ Hid (TabB w0 w' t H' W') := by
  obtain ⟨rfl, h2⟩ := hv.out
  refine (wait_b w0 w t H W wa pa na sa h.out).mono fun e w' ⟨h3, h4⟩ => ⟨h3, ?_⟩
  rw [h2] at h4
  exact h4
theorem free_v {r : Int} {H' W' told : List Lk} (hv : Hid (freeF ⟨wa, pa, na, sa⟩ H W = (r, H', W', told))) (h : Hid (TabG w0 w t G H W)) :
    Calls Try.prog 18 #[.pointer (some ⟨t, 0, none⟩), .agg #[.int .i64 wa, .int .i64 pa, .int .i64 na, .bool sa]] w fun e w' => ∃ A c G', e = .returned (.tuple #[.slice A told.length c, .int .i64 r]) ∧ Hid (Mod G w w') ∧ Hid (TabG w0 w' t G' H' W') ∧ Hid (Beside G' w' (.slice A told.length c) told) := by
  refine (free_g w0 w t G H W wa pa na sa h.out).mono fun e w' ⟨A, c, G', h1, h2, h3, h4, h5⟩ => ?_
  rw [hv.out] at h1 h3 h5
  exact ⟨A, c, G', h1, h2, h3, h5⟩
theorem leave_v {who : Int} {H' W' told : List Lk} (hv : Hid (leaveF who H W = (H', W', told))) (h : Hid (TabB w0 w t H W)) :
    Calls Try.prog 24 #[.pointer (some ⟨t, 0, none⟩), .int .i64 who] w fun e w' => ∃ A c, e = .returned (.slice A told.length c) ∧ Hid (TabB w0 w' t H' W') ∧ Hid (LkSl w' A told.length told) := by
  refine (leave_b w0 w t H W who h.out).mono fun e w' ⟨A, c, h1, h2, h3⟩ => ?_
  rw [hv.out] at h1 h2 h3
  exact ⟨A, c, h1, h2, h3⟩
end

/-! The table A. -/
def a1 : Lk := ⟨0, 0, 10, false⟩
def a3 : Lk := ⟨1, 10, 0, false⟩
def a4 : Lk := ⟨0, 3, 3, false⟩
def a5 : Lk := ⟨1, 0, 5, false⟩
def a6 : Lk := ⟨0, 20, 1, false⟩
def a7 : Lk := ⟨2, 2, 1, true⟩
def a16 : Lk := ⟨9, 4611686018427387904, 0, false⟩
theorem va1 : Hid (tryF ⟨0, 0, 10, false⟩ [] [] = 0 ∧ tryH ⟨0, 0, 10, false⟩ [] [] = [a1]) := by constructor <;> rfl
theorem va2 : Hid (tryF ⟨1, 5, 1, false⟩ [a1] [] = 150 ∧ tryH ⟨1, 5, 1, false⟩ [a1] [] = [a1]) := by constructor <;> rfl
theorem va3 : Hid (tryF ⟨1, 10, 0, false⟩ [a1] [] = 0 ∧ tryH ⟨1, 10, 0, false⟩ [a1] [] = [a1, a3]) := by constructor <;> rfl
theorem va4 : Hid (tryF ⟨0, 3, 3, false⟩ [a1, a3] [] = 0 ∧ tryH ⟨0, 3, 3, false⟩ [a1, a3] [] = [a1, a3, a4]) := by constructor <;> rfl
theorem va5 : Hid (waitF ⟨1, 0, 5, false⟩ [a1, a3, a4] [] = (false, 0) ∧ waitH ⟨1, 0, 5, false⟩ [a1, a3, a4] [] = ([a1, a3, a4], [a5])) :=
  wait_values (l := a5) (by rfl) (by rfl) (no_way_list [1, 0] 1 1 (by rfl) (by rfl))
theorem va6 : Hid (waitF ⟨0, 20, 1, false⟩ [a1, a3, a4] [a5] = (false, 151) ∧ waitH ⟨0, 20, 1, false⟩ [a1, a3, a4] [a5] = ([a1, a3, a4], [a5])) :=
  wait_circle (l := a6) (by rfl) (by rfl) (.cons (b := 1) (mem_edge (by decide)) (.one (mem_edge (by decide))))
theorem va7 : Hid (tryF ⟨2, 2, 1, true⟩ [a1, a3, a4] [a5] = 150 ∧ tryH ⟨2, 2, 1, true⟩ [a1, a3, a4] [a5] = [a1, a3, a4]) := by constructor <;> rfl
theorem va8 : Hid (waitF ⟨2, 2, 1, true⟩ [a1, a3, a4] [a5] = (false, 0) ∧ waitH ⟨2, 2, 1, true⟩ [a1, a3, a4] [a5] = ([a1, a3, a4], [a5, a7])) :=
  wait_values (l := a7) (by rfl) (by rfl) (no_way_list [2, 1, 0] 2 2 (by rfl) (by rfl))
theorem va9 : Hid (freeF ⟨0, 0, 10, false⟩ [a1, a3, a4] [a5, a7] = (0, [a3, a4], [a5, a7], [])) := by rfl
theorem va10 : Hid (freeF ⟨0, 3, 3, false⟩ [a3, a4] [a5, a7] = (0, [a3, a5], [a7], [a5])) := by rfl
theorem va11 : Hid (freeF ⟨0, 0, 10, false⟩ [a3, a5] [a7] = (192, [a3, a5], [a7], [])) := by rfl
theorem va12 : Hid (leaveF 1 [a3, a5] [a7] = ([a7], [], [a7])) := by rfl
theorem va13 : Hid (tryF ⟨256, 0, 1, false⟩ [a7] [] = 2 ∧ tryH ⟨256, 0, 1, false⟩ [a7] [] = [a7]) := by constructor <;> rfl
theorem va14 : Hid (tryF ⟨0, 0, -1, false⟩ [a7] [] = 2 ∧ tryH ⟨0, 0, -1, false⟩ [a7] [] = [a7]) := by constructor <;> rfl
theorem va15 : Hid (tryF ⟨0, 1, 4611686018427387904, false⟩ [a7] [] = 2 ∧ tryH ⟨0, 1, 4611686018427387904, false⟩ [a7] [] = [a7]) := by constructor <;> rfl
theorem va16 : Hid (tryF ⟨9, 4611686018427387904, 0, false⟩ [a7] [] = 0 ∧ tryH ⟨9, 4611686018427387904, 0, false⟩ [a7] [] = [a7, a16]) := by constructor <;> rfl

/-! The table B: many small ones. -/
def bk (k : Nat) : Lk := ⟨(k : Int) % 7, k, 1, false⟩
def bks (n : Nat) : List Lk := (List.range n).map bk
theorem bks_succ (n : Nat) : bks (n + 1) = bks n ++ [bk n] := by simp [bks, List.range_succ]
theorem bks_length (n : Nat) : (bks n).length = n := by simp [bks]
theorem vb {n : Nat} (hn : n < 256) : tryF (bk n) (bks n) [] = 0 ∧ tryH (bk n) (bks n) [] = bks (n + 1) := by
  have hm : mayB (bk n) = true := (may_iff _).2 (by simp only [bk]; omega)
  have hc : checkF (bk n) (bks n) [] = 0 := by
    unfold checkF
    rw [hm, if_neg (by simp), if_neg (by rw [bks_length]; simp; omega)]
  have hf : freeB (bk n) (bks n) [] = true := by
    have : meetsB (bk n) (bks n) = false := by
      unfold meetsB
      rw [List.any_eq_false]
      intro x hx
      obtain ⟨k, hk, rfl⟩ := List.mem_map.1 hx
      have hk := List.mem_range.1 hk
      have : aheadB (bk k) (bk n).pos = true := by
        have h1 : (0 : Int) < (bk k).num := by show (0 : Int) < 1; decide
        have h2 : (bk k).pos + (bk k).num ≤ (bk n).pos := by show (k : Int) + 1 ≤ n; omega
        unfold aheadB
        rw [decide_eq_true h1, decide_eq_true h2]
        rfl
      simp [meetB, this]
    show (!meetsB _ _ && !meetsB _ []) = true
    rw [this]
    rfl
  have h0 : tryF (bk n) (bks n) [] = 0 := by unfold tryF; rw [if_neg (by simp [hc]), hf, if_pos rfl]
  exact ⟨h0, by unfold tryH; rw [if_pos h0, bks_succ]⟩
theorem vb_full (l : Lk) (h : mayB l = true) : checkF l (bks 256) [] = 4 := by
  unfold checkF
  rw [h, if_neg (by simp), if_pos (by rw [bks_length]; simp)]
def b1000 : Lk := ⟨0, 1000, 1, false⟩
theorem vbw : Hid (waitF ⟨0, 1000, 1, false⟩ (bks 256) [] = (false, 4) ∧ waitH ⟨0, 1000, 1, false⟩ (bks 256) [] = (bks 256, [])) := by
  have h := vb_full b1000 (by decide)
  have := wait_full (l := b1000) (H := bks 256) (W := []) (by rw [h]; decide)
  rw [h] at this
  exact this
theorem vbt : Hid (tryF ⟨0, 1000, 1, false⟩ (bks 256) [] = 4 ∧ tryH ⟨0, 1000, 1, false⟩ (bks 256) [] = bks 256) := by
  have h := vb_full b1000 (by decide)
  have h0 : tryF b1000 (bks 256) [] = 4 := by unfold tryF; rw [if_pos (by rw [h]; decide), h]
  exact ⟨h0, by show tryH b1000 _ _ = _; unfold tryH; rw [if_neg (by rw [h0]; decide)]⟩

/-! The table C: many that wait. -/
def c0 : Lk := ⟨0, 0, 1, false⟩
def c1 : Lk := ⟨1, 0, 1, false⟩
def cs (n : Nat) : List Lk := List.replicate n c1
theorem cs_length (n : Nat) : (cs n).length = n := List.length_replicate
theorem vc0 : Hid (tryF ⟨0, 0, 1, false⟩ [] [] = 0 ∧ tryH ⟨0, 0, 1, false⟩ [] [] = [c0]) := by constructor <;> rfl
theorem vc {n : Nat} (hn : n < 255) : Hid (waitF ⟨1, 0, 1, false⟩ [c0] (cs n) = (false, 0) ∧ waitH ⟨1, 0, 1, false⟩ [c0] (cs n) = ([c0], cs (n + 1))) := by
  have hc : checkF c1 [c0] (cs n) = 0 := by
    unfold checkF
    rw [if_neg (by decide), if_neg (by rw [cs_length]; simp; omega)]
  have hf : freeB c1 [c0] (cs n) = false := by
    have : meetsB c1 [c0] = true := by decide
    simp [freeB, this]
  have he : cs n ++ [c1] = cs (n + 1) := by simp [cs, List.replicate_succ']
  have hw : ¬ Way [c0] (cs n ++ [c1]) c1.who c1.who := by
    rw [he]
    refine no_way_of (fun _ => True) _ _ (fun x y _ h => ⟨trivial, ?_⟩) trivial
    obtain ⟨i, p, q, hp, rfl, hq, hm, rfl⟩ := h
    have hp : p = c1 := (List.mem_replicate.1 (List.mem_of_getElem? hp)).2
    subst hp
    rcases hq with hq | hq
    · rw [List.mem_singleton.1 hq]; decide
    · have := (List.mem_replicate.1 (List.mem_of_mem_take hq)).2
      rw [this] at hm
      exact absurd hm (by decide)
  have := wait_values (l := c1) hc hf hw
  rw [he] at this
  exact this
theorem vcf : Hid (tryF ⟨0, 9, 1, false⟩ [c0] (cs 255) = 4 ∧ tryH ⟨0, 9, 1, false⟩ [c0] (cs 255) = [c0]) := by
  have h : checkF ⟨0, 9, 1, false⟩ [c0] (cs 255) = 4 := by
    unfold checkF
    rw [if_neg (by decide), if_pos (by rw [cs_length]; decide)]
  have h0 : tryF ⟨0, 9, 1, false⟩ [c0] (cs 255) = 4 := by unfold tryF; rw [if_pos (by rw [h]; decide), h]
  exact ⟨h0, by unfold tryH; rw [if_neg (by rw [h0]; decide)]⟩

/-! The table D: the same lock twice. -/
def d5 : Lk := ⟨0, 5, 1, false⟩
def d7 : Lk := ⟨0, 7, 1, false⟩
theorem vd1 : Hid (tryF ⟨0, 5, 1, false⟩ [] [] = 0 ∧ tryH ⟨0, 5, 1, false⟩ [] [] = [d5]) := by constructor <;> rfl
theorem vd2 : Hid (tryF ⟨0, 7, 1, false⟩ [d5] [] = 0 ∧ tryH ⟨0, 7, 1, false⟩ [d5] [] = [d5, d7]) := by constructor <;> rfl
theorem vd3 : Hid (tryF ⟨0, 5, 1, false⟩ [d5, d7] [] = 0 ∧ tryH ⟨0, 5, 1, false⟩ [d5, d7] [] = [d5, d7, d5]) := by constructor <;> rfl
theorem vd4 : Hid (freeF ⟨0, 5, 1, false⟩ [d5, d7, d5] [] = (0, [d7, d5], [], [])) := by rfl
end Go.Proofs.Ytpjgfkdnjkfnfaa
