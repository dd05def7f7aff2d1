/- Stacks of wrappers: the program's Stack. -/
import Derived.Test.YtbicaejpckcfbaaDoorH
namespace Go.Proofs.YtbicaejpckcfbaaDoor
open Go.RowKit

structure Wr where
  kd : Int
  n : Int
  m : Int
  key : Int
def Wr.ok (x : Wr) : Prop := -128 ≤ x.kd ∧ x.kd ≤ 127
def WrAt (w : World) (b off : Nat) (x : Wr) : Prop :=
  w.cell? ⟨b, off, none⟩ = some (.int .i8 x.kd) ∧ w.cell? ⟨b, off + 1, none⟩ = some (.int .i64 x.n) ∧ w.cell? ⟨b, off + 2, none⟩ = some (.int .i64 x.m) ∧ w.cell? ⟨b, off + 3, none⟩ = some (.int .u64 x.key)
/-- A slice value that reads as a list of wrappers. -/
def WrSl (w : World) (A : Option Addr) (n : Nat) (ls : List Wr) : Prop :=
  n = ls.length ∧ (0 < n → ∃ b off, A = some ⟨b, off, none⟩ ∧ b < w.heap.size ∧ ∀ k x, ls[k]? = some x → WrAt w b (off + k * 4) x)
theorem WrSl.ext {w w' : World} {A n ls} (h : WrSl w A n ls) (he : Ext w w') : WrSl w' A n ls := by
  refine ⟨h.1, fun hn => ?_⟩
  obtain ⟨b, off, rfl, hb, hc⟩ := h.2 hn
  refine ⟨b, off, rfl, Nat.lt_of_lt_of_le hb he.size, fun k x hk => ?_⟩
  obtain ⟨h1, h2, h3, h4⟩ := hc k x hk
  exact ⟨(he.cell hb).trans h1, (he.cell hb).trans h2, (he.cell hb).trans h3, (he.cell hb).trans h4⟩
/-- The cells of one, in all that comes later. -/
theorem WrSl.at {w : World} {A : Option Addr} {n : Nat} {ls : List Wr} (h : WrSl w A n ls) {k : Nat} (hk : k < n) : ∃ b off x, A = some ⟨b, off, none⟩ ∧ ls[k]? = some x ∧
    (∀ wx, Ext w wx → wx.cell? ⟨b, off + k * 4, none⟩ = some (.int .i8 x.kd)) ∧ (∀ wx, Ext w wx → wx.cell? ⟨b, off + k * 4 + 1, none⟩ = some (.int .i64 x.n)) ∧
    (∀ wx, Ext w wx → wx.cell? ⟨b, off + k * 4 + 2, none⟩ = some (.int .i64 x.m)) ∧ (∀ wx, Ext w wx → wx.cell? ⟨b, off + k * 4 + 3, none⟩ = some (.int .u64 x.key)) := by
  obtain ⟨b, off, rfl, hb, hc⟩ := h.2 (by omega)
  have hkl : k < ls.length := by have := h.1; omega
  obtain ⟨h1, h2, h3, h4⟩ := hc k _ (List.getElem?_eq_getElem hkl)
  exact ⟨b, off, ls[k], rfl, List.getElem?_eq_getElem hkl, fun wx he => (he.cell hb).trans h1, fun wx he => (he.cell hb).trans h2, fun wx he => (he.cell hb).trans h3, fun wx he => (he.cell hb).trans h4⟩

def two (k : Int) : Prop := k = 1 ∨ k = 2 ∨ k = 5 ∨ k = 8
instance (k : Int) : Decidable (two k) := by unfold two; infer_instance
def belowN (k : Int) (can : Nat) : List Nat := if two k then [can, 15] else [can]
def foldS : List Wr → Nat → Nat × Int
  | [], can => (can, 0)
  | x :: xs, can => if (overN x.kd (belowN x.kd can)).2 ≠ 0 then (0, 2) else foldS xs (overN x.kd (belowN x.kd can)).1
def stackN (ls : List Wr) (leaf : Nat) : Nat × Int := if 32 < ls.length then (0, 3) else if 15 < leaf then (0, 2) else foldS ls leaf
theorem over_err (k : Int) (ls : List Nat) : (overN k ls).2 = 0 ∨ (overN k ls).2 = 2 := by
  unfold overN
  split
  · exact .inr rfl
  · split
    · exact .inr rfl
    · split
      · exact .inr rfl
      · exact .inl rfl
theorem fold_step {ls : List Wr} {k : Nat} {x : Wr} (hx : ls[k]? = some x) (can : Nat) : foldS (ls.drop k) can = if (overN x.kd (belowN x.kd can)).2 ≠ 0 then (0, 2) else foldS (ls.drop (k + 1)) (overN x.kd (belowN x.kd can)).1 := by
  obtain ⟨h1, h2⟩ := List.getElem?_eq_some_iff.1 hx
  rw [List.drop_eq_getElem_cons h1, h2]
  rfl
def StackPost (ls : List Wr) (leaf : Nat) (w : World) (e : Ending) (w' : World) : Prop := e = .returned (.tuple #[.int .u8 ((stackN ls leaf).1 : Int), .int .i64 (stackN ls leaf).2]) ∧ Ext w w'
theorem StackPost.of {ls : List Wr} {leaf : Nat} {w w' : World} {a : Nat} {b : Int} (h : stackN ls leaf = (a, b)) (he : Ext w w') : StackPost ls leaf w (.returned (.tuple #[.int .u8 (a : Int), .int .i64 b])) w' := by
  unfold StackPost
  rw [h]
  exact ⟨rfl, he⟩
theorem Own.made (w : World) (x : Nat) : Own (w.alloc (.cells #[.int .u8 (x : Int)] 5)) 5 1 (.slice (some ⟨w.heap.size, 0, none⟩) 1 1) 1 (u8s [x]) :=
  ⟨rfl, .inr ⟨w.heap.size, 0, 1, _, rfl, heap_alloc_new w _, Nat.le_refl _, by unfold maxLen; omega, by simp, rfl⟩⟩

set_option maxRecDepth 20000 in
set_option maxHeartbeats 2000000 in
theorem stack_any (A : Option Addr) (n c : Nat) (ls : List Wr) (leaf : Nat) (w : World) (hs : WrSl w A n ls) (hok : ∀ x ∈ ls, x.ok) (hn : n ≤ 9223372036854775807) :
    Calls Tryd.prog 16 #[.slice A n c, .int .u8 (leaf : Int)] w (StackPost ls leaf w) := by
  have HS := Lib.hid hs
  have Hl := Lib.hid hs.1
  have HK := Lib.hid hok
  clear hs hok
  by_cases h32 : 32 < n
  · have hv : Hid (stackN ls leaf = (0, 3)) := if_pos (by have := Hl.out; omega)
    go_enter Tryd.func16, Tryd.ntmps16
    go_wp2_with fail
    go_ret2
    exact StackPost.of hv.out (Ext.refl _)
  by_cases hlf : 15 < leaf
  · have hv : Hid (stackN ls leaf = (0, 2)) := by show _ = _; unfold stackN; rw [if_neg (by have := Hl.out; omega), if_pos hlf]
    go_enter Tryd.func16, Tryd.ntmps16
    go_wp2_with fail
    go_ret2
    exact StackPost.of hv.out (Ext.refl _)
  have hv : Hid (stackN ls leaf = foldS ls leaf) := by show _ = _; unfold stackN; rw [if_neg (by have := Hl.out; omega), if_neg hlf]
  obtain ⟨i, hi, hz, hsz, hby⟩ := info_parts Tryd.info5
  go_enter Tryd.func16, Tryd.ntmps16
  go_wp2_with fail
  go_loopw [6, 19] (fun v i wr => ∃ (k can : Nat), k ≤ n ∧ i = .int .i64 k ∧ v = .int .u8 (can : Int) ∧ foldS ls leaf = foldS (ls.drop k) can ∧ Ext w wr) (fun _ i _ => n - (intOf i).toNat)
  case atStart => exact ⟨0, leaf, Nat.zero_le _, rfl, rfl, rfl, Ext.refl _⟩
  case round =>
    obtain ⟨k, can, hk, rfl, rfl, hf, hx⟩ := hrel
    have HF := Lib.hid hf
    have HX := Lib.hid hx
    clear hf hx
    by_cases hlt : k < n
    · obtain ⟨b, off, ⟨kd, xn, xm, xk⟩, rfl, hxe, k0, k1, k2, k3⟩ := (HS.out.ext HX.out).at hlt
      simp only at k0 k1 k2 k3
      have Hx := Lib.hid hxe
      have hko := HK.out _ (List.mem_of_getElem? hxe)
      obtain ⟨hk1, hk2⟩ : -128 ≤ kd ∧ kd ≤ 127 := hko
      have d0 := k0 _ (Ext.refl _)
      have d1 := k1 _ (Ext.refl _)
      have d2 := k2 _ (Ext.refl _)
      have d3 := k3 _ (Ext.refl _)
      have q0 : ∀ wx, Ext (wr.alloc (.cells #[.int .i8 kd, .int .i64 xn, .int .i64 xm, .int .u64 xk] 46)) wx → wx.cell? ⟨wr.heap.size, 0, none⟩ = some (.int .i8 kd) := fun wx h => h.cell_new 0
      have q1 : ∀ wx, Ext (wr.alloc (.cells #[.int .i8 kd, .int .i64 xn, .int .i64 xm, .int .u64 xk] 46)) wx → wx.cell? ⟨wr.heap.size, 1, none⟩ = some (.int .i64 xn) := fun wx h => h.cell_new 1
      have q2 : ∀ wx, Ext (wr.alloc (.cells #[.int .i8 kd, .int .i64 xn, .int .i64 xm, .int .u64 xk] 46)) wx → wx.cell? ⟨wr.heap.size, 2, none⟩ = some (.int .i64 xm) := fun wx h => h.cell_new 2
      have q3 : ∀ wx, Ext (wr.alloc (.cells #[.int .i8 kd, .int .i64 xn, .int .i64 xm, .int .u64 xk] 46)) wx → wx.cell? ⟨wr.heap.size, 3, none⟩ = some (.int .u64 xk) := fun wx h => h.cell_new 3
      have qs : ∀ wx, Ext (wr.alloc (.cells #[.int .i8 kd, .int .i64 xn, .int .i64 xm, .int .u64 xk] 46)) wx → wr.heap.size < wx.heap.size := fun wx h => h.lt_new
      obtain ⟨⟨ra, re⟩, hre⟩ : ∃ r, overN kd (belowN kd can) = r := ⟨_, rfl⟩
      have Hre := Lib.hid hre
      have hre2 := over_err kd (belowN kd can)
      rw [hre] at hre2
      simp only at hre2
      have Hstep : Hid (foldS ls leaf = if re ≠ 0 then (0, 2) else foldS (ls.drop (k + 1)) ra) := by
        show _ = _
        rw [HF.out, fold_step hxe, hre]
      clear hxe k0 k1 k2 k3 hre
      by_cases ht : two kd
      · have Hb : Hid (belowN kd can = [can, 15]) := if_pos ht
        have Hov : Hid (overN kd [can, 15] = (ra, re)) := by show _ = _; rw [← Hb.out]; exact Hre.out
        have q00 := q0 _ (Ext.refl _)
        obtain ⟨X, hX⟩ : ∃ X : Obj, X = .cells #[.int .i8 kd, .int .i64 xn, .int .i64 xm, .int .u64 xk] 46 := ⟨_, rfl⟩
        have HXe := Lib.hid hX
        rw [← hX] at q0 q1 q2 q3
        have HQ : Hid (∀ wx, Ext (wr.alloc X) wx → wx.cell? ⟨wr.heap.size, 0, none⟩ = some (.int .i8 kd) ∧ wx.cell? ⟨wr.heap.size, 1, none⟩ = some (.int .i64 xn) ∧ wx.cell? ⟨wr.heap.size, 2, none⟩ = some (.int .i64 xm) ∧ wx.cell? ⟨wr.heap.size, 3, none⟩ = some (.int .u64 xk)) := fun wx h => ⟨q0 _ h, q1 _ h, q2 _ h, q3 _ h⟩
        have Hown : Hid (Own (((wr.alloc X).alloc (.cells #[.int .u8 (can : Int)] 5)).alloc (.cells #[.int .u8 15] 5)) 5 1 (.slice (some ⟨wr.heap.size + 1, 0, none⟩) 1 1) 1 (u8s [can])) := Lib.hid (by have := (Own.made (wr.alloc X) can).ext ((Ext.refl _).alloc (.cells #[.int .u8 15] 5)); simpa using this)
        have Hnew : Hid (0 < 1 → ∃ ad, (some ⟨wr.heap.size + 1 + 1, 0, none⟩ : Option Addr) = some ad ∧ ∀ j u, (u8s [15])[j]? = some u → (((wr.alloc X).alloc (.cells #[.int .u8 (can : Int)] 5)).alloc (.cells #[.int .u8 15] 5)).cell? (ad.add j) = some u) := Lib.hid (fun _ => ⟨_, rfl, by have := new_cells ((wr.alloc X).alloc (.cells #[.int .u8 (can : Int)] 5)) [.int .u8 15] 5; simpa [u8s] using this⟩)
        clear hX q0 q1 q2 q3 qs
        rcases ht with rfl | rfl | rfl | rfl
        all_goals
          go_wp2_with (at_builtin; (try rw [← HXe.out]); refine wpList_append_own_any _ rfl (.tmp 32) (.tmp 33) 28 rfl 5 i _ 1 1 Tryd.underlying28 hi hz hsz hby rfl (by decide) (.slice (some ⟨wr.heap.size + 1, 0, none⟩) 1 1) 1 (u8s [can]) rfl Hown.out (some ⟨wr.heap.size + 1 + 1, 0, none⟩) 1 1 (u8s [15]) rfl rfl Hnew.out (u8s_one [15]) (by unfold maxLen; decide) (by decide) ?_)
          intro v' w2 ho2 hg2 hv2
          have hx2a : Ext (wr.alloc X) w2 := (((Ext.refl _).alloc _).alloc _).grown hg2 (fun j h => by simp [Value.ownBlock] at h; simp; omega)
          have Hx2 : Hid (Ext w w2) := HX.out.trans (((Ext.refl wr).alloc X).trans hx2a)
          have Hsl : Hid (Own w2 5 1 v' 2 (u8s [can, 15])) := ho2
          obtain ⟨q0e, q1e, q2e, q3e⟩ := HQ.out w2 hx2a
          obtain ⟨A2, c2, rfl, -, -⟩ := ho2.form
          clear ho2 hg2 hv2 hx2a
          go_wp2_with fail
          refine (over_any _ xn xm xk A2 2 c2 [can, 15] w2 (own_sets Hsl.out) (by decide) hk1 hk2).mono ?_
          rintro e w3 ⟨rfl, hx3⟩
          rw [Hov.out]
          have HX3 := Lib.hid (Hx2.out.trans hx3)
          clear hx3 d0 d1 d2 d3
          by_cases hr : re = 0
          · subst hr
            have HS2 : Hid (foldS ls leaf = foldS (ls.drop (k + 1)) ra) := by show _ = _; rw [Hstep.out]; exact if_neg (fun h => h rfl)
            go_wp2_with fail
            go_roundw
            case rel => exact ⟨k + 1, ra, by omega, by go_num, rfl, HS2.out, HX3.out⟩
            case measure => simp [intOf]; omega
          · obtain rfl : re = 2 := by omega
            have HS2 : Hid (stackN ls leaf = (0, 2)) := by show _ = _; rw [hv.out, Hstep.out]; exact if_pos (by decide)
            go_wp2_with fail
            go_ret2
            exact StackPost.of HS2.out HX3.out
      · have Hb : Hid (belowN kd can = [can]) := if_neg ht
        have n1 : (kd == 1) = false := beq_eq_false_iff_ne.2 (fun h => ht (.inl h))
        have n2 : (kd == 2) = false := beq_eq_false_iff_ne.2 (fun h => ht (.inr (.inl h)))
        have n5 : (kd == 5) = false := beq_eq_false_iff_ne.2 (fun h => ht (.inr (.inr (.inl h))))
        have n8 : (kd == 8) = false := beq_eq_false_iff_ne.2 (fun h => ht (.inr (.inr (.inr h))))
        have q00 := q0 _ (Ext.refl _)
        have e2 : Ext (wr.alloc (.cells #[.int .i8 kd, .int .i64 xn, .int .i64 xm, .int .u64 xk] 46)) ((wr.alloc (.cells #[.int .i8 kd, .int .i64 xn, .int .i64 xm, .int .u64 xk] 46)).alloc (.cells #[.int .u8 (can : Int)] 5)) := (Ext.refl _).alloc _
        have q0e := q0 _ e2
        have q1e := q1 _ e2
        have q2e := q2 _ e2
        have q3e := q3 _ e2
        have Hsl : Hid (SetSl ((wr.alloc (.cells #[.int .i8 kd, .int .i64 xn, .int .i64 xm, .int .u64 xk] 46)).alloc (.cells #[.int .u8 (can : Int)] 5)) (some ⟨wr.heap.size + 1, 0, none⟩) 1 [can]) := Lib.hid (by have := SetSl.made (wr.alloc (.cells #[.int .i8 kd, .int .i64 xn, .int .i64 xm, .int .u64 xk] 46)) [can] #[.int .u8 (can : Int)] rfl; simpa using this)
        have Hx2 := Lib.hid (HX.out.trans (((Ext.refl wr).alloc (.cells #[.int .i8 kd, .int .i64 xn, .int .i64 xm, .int .u64 xk] 46)).trans e2))
        have Hov : Hid (overN kd [can] = (ra, re)) := by show _ = _; rw [← Hb.out]; exact Hre.out
        clear ht e2 q0 q1 q2 q3 qs
        go_wp2_with fail
        refine (over_any kd xn xm xk _ 1 1 [can] _ Hsl.out (by decide) hk1 hk2).mono ?_
        rintro e w3 ⟨rfl, hx3⟩
        rw [Hov.out]
        have HX3 := Lib.hid (Hx2.out.trans hx3)
        clear hx3 d0 d1 d2 d3
        by_cases hr : re = 0
        · subst hr
          have HS2 : Hid (foldS ls leaf = foldS (ls.drop (k + 1)) ra) := by show _ = _; rw [Hstep.out]; exact if_neg (fun h => h rfl)
          go_wp2_with fail
          go_roundw
          case rel => exact ⟨k + 1, ra, by omega, by go_num, rfl, HS2.out, HX3.out⟩
          case measure => simp [intOf]; omega
        · obtain rfl : re = 2 := by omega
          have HS2 : Hid (stackN ls leaf = (0, 2)) := by show _ = _; rw [hv.out, Hstep.out]; exact if_pos (by decide)
          go_wp2_with fail
          go_ret2
          exact StackPost.of HS2.out HX3.out
    · have hkn : k = n := by omega
      have HS2 : Hid (stackN ls leaf = (can, 0)) := by
        show _ = _
        rw [hv.out, HF.out, show k = ls.length from by have := Hl.out; omega, List.drop_length]
        rfl
      clear hkn
      go_wp2_with fail
      go_ret2
      exact StackPost.of HS2.out HX.out
end Go.Proofs.YtbicaejpckcfbaaDoor
