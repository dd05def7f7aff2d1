/- The document's end: what stands where the end begins. -/
import Derived.Test.YtcpnnkkfndgpjaaDoorDG
namespace Go.Proofs.YtcpnnkkfndgpjaaDoor
open Go.RowKit

theorem slice_ij {g o L C i j : Nat} (h1 : i ≤ j) (h2 : j ≤ C) (h3 : C ≠ i) (wx : World) : (Instr.slice 26 (.slice (some ⟨g, o, none⟩) L C) (some (.int .i64 (i : Int))) (some (.int .i64 (j : Int))) none).run Tryd.prog wx = .ok (.slice (some ⟨g, o + i, none⟩) (j - i) (C - i)) wx := by
  have he : Tryd.prog.elem 26 = 5 := by kernel_rfl
  rw [run_slice_lh (P := Tryd.prog) wx 26 _ L C (by rw [he]; exact Tryd.underlying26) .i64 .i64 _ _ (by omega) (by omega) (by omega), he, Tryd.sizeOf5]
  simp [Result.andThen, sliced, h3, add_off]
theorem slice_i {g o L C i : Nat} (h1 : i ≤ L) (h3 : C ≠ i) (wx : World) : (Instr.slice 26 (.slice (some ⟨g, o, none⟩) L C) (some (.int .i64 (i : Int))) none none).run Tryd.prog wx = .ok (.slice (some ⟨g, o + i, none⟩) (L - i) (C - i)) wx := by
  have he : Tryd.prog.elem 26 = 5 := by kernel_rfl
  rw [run_slice_l (P := Tryd.prog) wx 26 _ L C (by rw [he]; exact Tryd.underlying26) .i64 _ (by omega) (by omega), he, Tryd.sizeOf5]
  simp [Result.andThen, sliced, h3, add_off]
theorem slice_j {A : Option Addr} {L C j : Nat} (h2 : j ≤ C) (wx : World) : (Instr.slice 26 (.slice A L C) none (some (.int .i64 (j : Int))) none).run Tryd.prog wx = .ok (.slice A j C) wx := by
  have he : Tryd.prog.elem 26 = 5 := by kernel_rfl
  rw [run_slice_h (P := Tryd.prog) wx 26 _ L C (by rw [he]; exact Tryd.underlying26) .i64 _ (by omega) (by omega), he, Tryd.sizeOf5]
  have e : (if C = 0 then A else Option.map (fun x : Addr => x.add 0) A) = A := by
    split
    · rfl
    · cases A with
      | none => rfl
      | some x => simp [Addr.add]
  simp [Result.andThen, sliced, e]
def nextV (N : Int) (is : Bool) (p : ByteArray) (k : Int) (d : Value) (bad : Bool) : Value := .agg #[.int .i64 N, .bool is, .string p, .int .i8 k, d, .bool bad]
def NextPost (fr : Fr) (w : World) (e : Ending) (w' : World) : Prop :=
  match fr with
  | .bad => e = .returned (nextV 0 false ⟨#[]⟩ 0 (.slice none 0 0) true) ∧ Ext w w'
  | .wait => e = .returned (nextV 0 false ⟨#[]⟩ 0 (.slice none 0 0) false) ∧ Ext w w'
  | .fin => e = .returned (nextV 13 false ⟨#[]⟩ 0 (.slice none 0 0) false) ∧ Ext w w'
  | .item m y => ∃ D dc, e = .returned (nextV (m : Int) true (mkB y.path) y.kind (.slice D y.data.length dc) false) ∧ Ext w w' ∧ Own w' 5 1 (.slice D y.data.length dc) y.data.length (u8v y.data) ∧ ∀ k, (Value.slice D y.data.length dc).ownBlock = some k → w.heap.size ≤ k
/-- The result's six cells are set. -/
theorem row6 {w0 w : World} {b : Nat} {a0 a1 a2 a3 a4 a5 : Value} (h : w.heap[b]? = some (.cells #[a0, a1, a2, a3, a4, a5] 70 (0, 0))) (u0 u1 u2 u3 u4 u5 : Value) (hx : Ext w0 w) (hb : w0.heap.size ≤ b) :
    Ext w0 ((((((w.setCell ⟨b, 0, none⟩ u0).setCell ⟨b, 1, none⟩ u1).setCell ⟨b, 2, none⟩ u2).setCell ⟨b, 3, none⟩ u3).setCell ⟨b, 4, none⟩ u4).setCell ⟨b, 5, none⟩ u5) ∧
    ∀ (i : Nat), ((((((w.setCell ⟨b, 0, none⟩ u0).setCell ⟨b, 1, none⟩ u1).setCell ⟨b, 2, none⟩ u2).setCell ⟨b, 3, none⟩ u3).setCell ⟨b, 4, none⟩ u4).setCell ⟨b, 5, none⟩ u5).cell? ⟨b, i, none⟩ = #[u0, u1, u2, u3, u4, u5][i]? := by
  have hF := heap_setCell_at (i := 5) (heap_setCell_at (i := 4) (heap_setCell_at (i := 3) (heap_setCell_at (i := 2) (heap_setCell_at (i := 1) (heap_setCell_at (i := 0) h u0) u1) u2) u3) u4) u5
  refine ⟨((((((hx.setCell _ _ hb).setCell _ _ hb).setCell _ _ hb).setCell _ _ hb).setCell _ _ hb).setCell _ _ hb), fun i => ?_⟩
  rw [cell_of_row _ _ i _ 70 (0, 0) hF]
  rfl
section
variable {Z : Sp} {items sum : Nat} {b : Bs}
theorem fe_bad1 (h1 : 5 ≤ b.length) (h2 : numL ((b.drop 1).take 4) ≠ items) : frontEnd Z items sum b = .bad := by unfold frontEnd; rw [if_pos ⟨h1, h2⟩]
theorem fe_wait (h : b.length < 13) (h2 : 5 ≤ b.length → numL ((b.drop 1).take 4) = items) : frontEnd Z items sum b = .wait := by unfold frontEnd; rw [if_neg (fun q => q.2 (h2 q.1)), if_pos h]
theorem fe_bad2 (h : ¬ b.length < 13) (h2 : numL ((b.drop 1).take 4) = items) (h3 : numL ((b.drop 5).take 8) ≠ fnv Z sum (b.take 5)) : frontEnd Z items sum b = .bad := by unfold frontEnd; rw [if_neg (fun q => q.2 h2), if_neg h, if_pos h3]
theorem fe_fin (h : ¬ b.length < 13) (h2 : numL ((b.drop 1).take 4) = items) (h3 : numL ((b.drop 5).take 8) = fnv Z sum (b.take 5)) : frontEnd Z items sum b = .fin := by unfold frontEnd; rw [if_neg (fun q => q.2 h2), if_neg h, if_neg (fun q => q h3)]
end
theorem sum_more (Z : Sp) (B : Bs) (f k : Nat) : fnv Z (fnv Z fnv0 (B.take f)) ((B.drop f).take k) = sumB Z (B.take (f + k)) := by
  rw [← fnv_append, List.take_add]; rfl
set_option maxRecDepth 20000 in
set_option maxHeartbeats 4000000 in
theorem rend_any (Z : Sp) (r : Nat) (A : Option Addr) (n c : Nat) (B : Bs) (f t : Nat) (a : Bs) (torn whole : Bool) (w : World) (hr : RfAt w r A n c B f t a torn whole) (hn : n ≤ 1073741824) (hf : f < n) (ht : t ≤ 1000000) :
    Calls Tryd.prog 48 #[.pointer (some ⟨r, 0, none⟩)] w (NextPost (frontEnd Z t (fnv Z fnv0 (B.take f)) (B.drop f)) w) := by
  have HR := Lib.hid hr
  have hlen := hr.len
  have hnc : n ≤ c := by obtain ⟨_, _, hv, h2, -⟩ := hr.own.form; injection hv with _ _ h3; omega
  obtain ⟨g, off, rfl, hg⟩ : ∃ g off, A = some ⟨g, off, none⟩ ∧ g < w.heap.size := by obtain ⟨A', cap, hv, -, hp⟩ := hr.own.form; injection hv with h1; subst h1; exact hp (by omega)
  obtain ⟨F, hF⟩ : ∃ F, frontEnd Z t (fnv Z fnv0 (B.take f)) (B.drop f) = F := ⟨_, rfl⟩
  rw [hF]
  have HF := Lib.hid hF
  obtain ⟨b, hb⟩ : ∃ b, B.drop f = b := ⟨_, rfl⟩
  have hbl : b.length = n - f := by rw [← hb, List.length_drop, hlen]
  have HP : Hid (BySl w (some ⟨g, off + f, none⟩) (n - f) b) := Lib.hid (by have := hr.bytes.part (i := f) (k := n - f) (by omega); rwa [hb, List.take_of_length_le (by omega)] at this)
  have Hb := Lib.hid hb
  rw [hb] at HF
  have hsl := fun wx => slice_i (g := g) (o := off) (L := n) (C := c) (i := f) (by omega) (by omega) wx
  obtain ⟨L, hL⟩ : ∃ L, n - f = L := ⟨_, rfl⟩
  obtain ⟨C, hC⟩ : ∃ C, c - f = C := ⟨_, rfl⟩
  obtain ⟨o, ho⟩ : ∃ o, off + f = o := ⟨_, rfl⟩
  have hLC : L ≤ C := by omega
  have hL0 : 0 < L := by omega
  rw [hL, hC, ho] at hsl
  rw [hL, ho] at HP
  rw [hL] at hbl
  have Hbl := Lib.hid hbl
  have HL := Lib.hid hL
  clear hr hlen hF hb hbl hL hC ho
  go_enter Tryd.func48, Tryd.ntmps48
  go_wp2_with fail
  have HX0 : Hid (Ext w (w.alloc (.cells #[.int .i64 0, .bool false, .string ⟨#[]⟩, .int .i8 0, .slice none 0 0, .bool false] 70))) := Lib.hid ((Ext.refl _).alloc _)
  have HZ0 : Hid ((w.alloc (.cells #[.int .i64 0, .bool false, .string ⟨#[]⟩, .int .i8 0, .slice none 0 0, .bool false] 70)).heap[w.heap.size]? = some (.cells #[.int .i64 0, .bool false, .string ⟨#[]⟩, .int .i8 0, .slice none 0 0, .bool false] 70 (0, 0))) := Lib.hid (heap_alloc_new w _)
  obtain ⟨w0, hw0⟩ : ∃ W, w.alloc (.cells #[.int .i64 0, .bool false, .string ⟨#[]⟩, .int .i8 0, .slice none 0 0, .bool false] 70) = W := ⟨_, rfl⟩
  have hs0 : w.heap.size < w0.heap.size := by rw [← hw0]; simp
  rw [hw0] at HX0 HZ0 ⊢
  clear hw0
  have K0 : ∀ wx, Ext w0 wx → wx.cell? ⟨r, 0, none⟩ = some (.slice (some ⟨g, off, none⟩) n c) := fun wx h => ((HR.out.ext (HX0.out.trans h)).cells).1
  have K1 : ∀ wx, Ext w0 wx → wx.cell? ⟨r, 1, none⟩ = some (.int .i64 (f : Int)) := fun wx h => ((HR.out.ext (HX0.out.trans h)).cells).2.1
  have K2 : ∀ wx, Ext w0 wx → wx.cell? ⟨r, 2, none⟩ = some (.int .i64 (t : Int)) := fun wx h => ((HR.out.ext (HX0.out.trans h)).cells).2.2.1
  refine region_lin (fun wx => Ext w0 wx) 100000 [(0, 3), (1, 3), (2, 3), (3, 0), (4, 3), (5, 3), (6, 3), (7, 0), (8, 3), (9, 3)] ?_ (by kernel_rfl) (by kernel_rfl) ?_ (fun _ _ _ _ _ h => h) ((Ext.refl _).drew) ?_
  rotate_left
  (simp only [planOps, List.mapM_cons, List.mapM_nil, List.getElem?_toArray, List.getElem?_cons_zero, List.getElem?_cons_succ, Option.map_some, Option.bind_eq_bind, Option.bind_some, Option.pure_def]; rfl)
  intro wd hwd hxd
  repeat (first | (refine lin_take ?_ (by rfl) (fun wx hx => ?_) ?_; rotate_left; go_simp; (with_reducible rfl); try simp only [Act.put, List.setIfInBounds_toArray, List.set_cons_zero, List.set_cons_succ]) | (refine lin_skip (by rfl) ?_; try simp only [Act.put, List.setIfInBounds_toArray, List.set_cons_zero, List.set_cons_succ]) | (refine lin_take3 ?_ (by rfl) (fun wx hx => ?_) ?_; rotate_left; go_simp; (with_reducible rfl); try simp only [Act.put, List.setIfInBounds_toArray, List.set_cons_zero, List.set_cons_succ]) | (refine lin_skip3 (by rfl) ?_; try simp only [Act.put, List.setIfInBounds_toArray, List.set_cons_zero, List.set_cons_succ]))
  refine lin_nil ?_
  go_wp2_with fail
  have HXd := Lib.hid hwd
  clear hxd
  by_cases h5 : 5 ≤ L
  · have k5 : decide ((5 : Int) ≤ (L : Int)) = true := decide_eq_true (by omega)
    have s15 : ∀ wx, (Instr.slice 26 (.slice (some ⟨g, o, none⟩) L C) (some (.int .i64 1)) (some (.int .i64 5)) none).run Tryd.prog wx = .ok (.slice (some ⟨g, o + 1, none⟩) 4 (C - 1)) wx := fun wx => slice_ij (i := 1) (j := 5) (by omega) (by omega) (by omega) wx
    have HP1 : Hid (BySl w (some ⟨g, o + 1, none⟩) 4 ((b.drop 1).take 4)) := Lib.hid (HP.out.part (by omega))
    obtain ⟨nu, hnu⟩ : ∃ z, numL ((b.drop 1).take 4) = z := ⟨_, rfl⟩
    have Hnu := Lib.hid hnu
    have hwt : IntKind.u64.wrap (t : Int) = (t : Int) := IntWalk.u64_in _ (by omega)
    clear hnu
    refine region_lin (fun wx => Ext w0 wx) 100000 [(0, 3), (1, 3), (2, 3), (3, 3), (4, 3), (5, 3), (7, 3), (8, 3), (9, 3), (10, 0), (11, 3), (6, 1), (12, 3), (13, 3)] ?_ (by kernel_rfl) (by kernel_rfl) ?_ (fun _ _ _ _ _ h => h) (HXd.out.drew) ?_
    rotate_left
    (simp only [planOps, List.mapM_cons, List.mapM_nil, List.getElem?_toArray, List.getElem?_cons_zero, List.getElem?_cons_succ, Option.map_some, Option.bind_eq_bind, Option.bind_some, Option.pure_def]; rfl)
    intro wde hwde hxde
    repeat (first | (refine lin_take ?_ (by rfl) (fun wx hx => ?_) ?_; rotate_left; go_simp; (with_reducible rfl); try simp only [Act.put, List.setIfInBounds_toArray, List.set_cons_zero, List.set_cons_succ]) | (refine lin_skip (by rfl) ?_; try simp only [Act.put, List.setIfInBounds_toArray, List.set_cons_zero, List.set_cons_succ]) | (refine lin_take3 ?_ (by rfl) (fun wx hx => ?_) ?_; rotate_left; go_simp; (with_reducible rfl); try simp only [Act.put, List.setIfInBounds_toArray, List.set_cons_zero, List.set_cons_succ]) | (refine lin_skip3 (by rfl) ?_; try simp only [Act.put, List.setIfInBounds_toArray, List.set_cons_zero, List.set_cons_succ]))
    refine lin_run (by rfl) (fun KC hK => ?_)
    go_simp
    refine (rnumber_any (some ⟨g, o + 1, none⟩) 4 _ _ wde (HP1.out.ext (HX0.out.trans hwde)) (by decide)).mono ?_
    rintro e w7 ⟨rfl, rfl⟩
    rw [Hnu.out]
    refine hK _ _ hwde ?_
    clear hK
    try simp only [Act.put, List.setIfInBounds_toArray, List.set_cons_zero, List.set_cons_succ]
    by_cases hnt : nu = t
    · have b1 : ((nu : Int) == (t : Int)) = true := by rw [hnt]; simp
      have Hnt := Lib.hid hnt
      clear hnt
      repeat (first | (refine lin_take ?_ (by rfl) (fun wx hx => ?_) ?_; rotate_left; go_simp; (with_reducible rfl); try simp only [Act.put, List.setIfInBounds_toArray, List.set_cons_zero, List.set_cons_succ]) | (refine lin_skip (by rfl) ?_; try simp only [Act.put, List.setIfInBounds_toArray, List.set_cons_zero, List.set_cons_succ]) | (refine lin_take3 ?_ (by rfl) (fun wx hx => ?_) ?_; rotate_left; go_simp; (with_reducible rfl); try simp only [Act.put, List.setIfInBounds_toArray, List.set_cons_zero, List.set_cons_succ]) | (refine lin_skip3 (by rfl) ?_; try simp only [Act.put, List.setIfInBounds_toArray, List.set_cons_zero, List.set_cons_succ]))
      refine lin_nil ?_
      clear s15 k5
      by_cases h13 : L < 13
      · have HF2 : Hid (F = .wait) := Lib.hid (by rw [← HF.out]; exact fe_wait (by have := Hbl.out; omega) (fun _ => Hnu.out.trans Hnt.out))
        clear K0 K1 K2
        have HZ := Lib.hid ((Mod.block hwde _ hs0 (fun f => f)).trans HZ0.out)
        have hz := fun i => cell_of_row _ _ i _ 70 (0, 0) HZ.out
        have hz0 := hz 0
        have hz1 := hz 1
        have hz2 := hz 2
        have hz3 := hz 3
        have hz4 := hz 4
        have hz5 := hz 5
        simp only [List.getElem?_toArray, List.getElem?_cons_zero, List.getElem?_cons_succ] at hz0 hz1 hz2 hz3 hz4 hz5
        have hzf : ∀ o, wde.frozen? ⟨w.heap.size, o, none⟩ = false := fun o => by simp [World.frozen?, HZ.out]
        have zf0 := hzf 0
        have zf1 := hzf 1
        have zf2 := hzf 2
        have zf3 := hzf 3
        have zf4 := hzf 4
        have zf5 := hzf 5
        clear hzf hz
        go_wp2_with fail
        obtain ⟨hx9, hc9⟩ := row6 HZ.out (.int .i64 0) (.bool false) (.string ⟨#[]⟩) (.int .i8 0) (.slice none 0 0) (.bool false) (HX0.out.trans hwde) (Nat.le_refl _)
        have q0 := hc9 0
        have q1 := hc9 1
        have q2 := hc9 2
        have q3 := hc9 3
        have q4 := hc9 4
        have q5 := hc9 5
        simp only [List.getElem?_toArray, List.getElem?_cons_zero, List.getElem?_cons_succ] at q0 q1 q2 q3 q4 q5
        exact bodyPost_ret (v := nextV 0 false ⟨#[]⟩ 0 (.slice none 0 0) false) (by simp [results, Tryd.results48, go_sem, q0, q1, q2, q3, q4, q5, nextV]) rfl (by rw [HF2.out]; exact ⟨rfl, hx9⟩)
      · have HP2 : Hid (BySl w (some ⟨g, o + 5, none⟩) 8 ((b.drop 5).take 8)) := Lib.hid (HP.out.part (by omega))
        have HP3 : Hid (BySl w (some ⟨g, off, none⟩) (f + 5) (B.take (f + 5))) := Lib.hid (by
          have := (HR.out.bytes).part (i := 0) (k := f + 5) (by have := HL.out; omega)
          rwa [Nat.add_zero, List.drop_zero] at this)
        have s2 : ∀ wx, (Instr.slice 26 (.slice (some ⟨g, o, none⟩) L C) (some (.int .i64 5)) (some (.int .i64 13)) none).run Tryd.prog wx = .ok (.slice (some ⟨g, o + 5, none⟩) 8 (C - 5)) wx := fun wx => slice_ij (i := 5) (j := 13) (by omega) (by omega) (by omega) wx
        obtain ⟨f5, hf5⟩ : ∃ x, f + 5 = x := ⟨_, rfl⟩
        have s3 := fun wx => slice_j (A := some ⟨g, off, none⟩) (L := n) (C := c) (j := f5) (by have := HL.out; omega) wx
        have a5 : IntKind.i64.wrap ((f : Int) + 5) = (f5 : Int) := by rw [IntWalk.i64_in _ (by omega)]; omega
        have a6 : (f : Int) + 5 = (f5 : Int) := by omega
        have a7 : IntKind.i64.wrap (f5 : Int) = (f5 : Int) := IntWalk.i64_in _ (by omega)
        rw [hf5] at HP3
        have Hf5 := Lib.hid hf5
        obtain ⟨nu2, hnu2⟩ : ∃ z, numL ((b.drop 5).take 8) = z := ⟨_, rfl⟩
        obtain ⟨su, hsu⟩ : ∃ z, sumB Z (B.take f5) = z := ⟨_, rfl⟩
        have Hnu2 := Lib.hid hnu2
        have Hsu := Lib.hid hsu
        have Hse : Hid (fnv Z (fnv Z fnv0 (B.take f)) (b.take 5) = su) := Lib.hid (by rw [← Hb.out, sum_more, hf5]; exact hsu)
        have HXe := Lib.hid hwde
        have hf5n : f5 ≤ n := by have := HL.out; omega
        clear hnu2 hsu hf5 hwde hxde
        go_wp2_with fail
        refine region_lin (fun wx => Ext w0 wx) 100000 [(0, 3), (1, 3), (3, 3), (4, 3), (5, 3), (6, 0), (7, 3), (8, 3), (9, 3), (10, 0), (11, 3), (12, 3), (2, 1), (13, 1), (14, 3)] ?_ (by kernel_rfl) (by kernel_rfl) ?_ (fun _ _ _ _ _ h => h) (HXe.out.drew) ?_
        rotate_left
        (simp only [planOps, List.mapM_cons, List.mapM_nil, List.getElem?_toArray, List.getElem?_cons_zero, List.getElem?_cons_succ, Option.map_some, Option.bind_eq_bind, Option.bind_some, Option.pure_def]; rfl)
        intro wdh hwdh hxdh
        repeat (first | (refine lin_take ?_ (by rfl) (fun wx hx => ?_) ?_; rotate_left; go_simp; (with_reducible rfl); try simp only [Act.put, List.setIfInBounds_toArray, List.set_cons_zero, List.set_cons_succ]) | (refine lin_skip (by rfl) ?_; try simp only [Act.put, List.setIfInBounds_toArray, List.set_cons_zero, List.set_cons_succ]) | (refine lin_take3 ?_ (by rfl) (fun wx hx => ?_) ?_; rotate_left; go_simp; (with_reducible rfl); try simp only [Act.put, List.setIfInBounds_toArray, List.set_cons_zero, List.set_cons_succ]) | (refine lin_skip3 (by rfl) ?_; try simp only [Act.put, List.setIfInBounds_toArray, List.set_cons_zero, List.set_cons_succ]))
        refine lin_run (by rfl) (fun KC hK => ?_)
        go_simp
        refine (rnumber_any (some ⟨g, o + 5, none⟩) 8 _ _ wdh (HP2.out.ext (HX0.out.trans hwdh)) (by decide)).mono ?_
        rintro e w7 ⟨rfl, rfl⟩
        rw [Hnu2.out]
        refine hK _ _ hwdh ?_
        clear hK
        try simp only [Act.put, List.setIfInBounds_toArray, List.set_cons_zero, List.set_cons_succ]
        refine lin_run (by rfl) (fun KC hK => ?_)
        go_simp
        refine (rsum_any Z (some ⟨g, off, none⟩) f5 _ _ wdh (HP3.out.ext (HX0.out.trans hwdh)) (by omega)).mono ?_
        rintro e w7 ⟨rfl, rfl⟩
        rw [Hsu.out]
        refine hK _ _ hwdh ?_
        clear hK
        try simp only [Act.put, List.setIfInBounds_toArray, List.set_cons_zero, List.set_cons_succ]
        by_cases hns : nu2 = su
        · have b2 : ((nu2 : Int) == (su : Int)) = true := by rw [hns]; simp
          have HF2 : Hid (F = .fin) := Lib.hid (by rw [← HF.out]; exact fe_fin (by have := Hbl.out; omega) (Hnu.out.trans Hnt.out) (by rw [Hnu2.out, Hse.out]; exact hns))
          clear hns
          repeat (first | (refine lin_take ?_ (by rfl) (fun wx hx => ?_) ?_; rotate_left; go_simp; (with_reducible rfl); try simp only [Act.put, List.setIfInBounds_toArray, List.set_cons_zero, List.set_cons_succ]) | (refine lin_skip (by rfl) ?_; try simp only [Act.put, List.setIfInBounds_toArray, List.set_cons_zero, List.set_cons_succ]) | (refine lin_take3 ?_ (by rfl) (fun wx hx => ?_) ?_; rotate_left; go_simp; (with_reducible rfl); try simp only [Act.put, List.setIfInBounds_toArray, List.set_cons_zero, List.set_cons_succ]) | (refine lin_skip3 (by rfl) ?_; try simp only [Act.put, List.setIfInBounds_toArray, List.set_cons_zero, List.set_cons_succ]))
          refine lin_nil ?_
          clear K0 K1 K2 s2 s3 a5 a6 a7
          have HZ := Lib.hid ((Mod.block hwdh _ hs0 (fun f => f)).trans HZ0.out)
          have hz := fun i => cell_of_row _ _ i _ 70 (0, 0) HZ.out
          have hz0 := hz 0
          have hz1 := hz 1
          have hz2 := hz 2
          have hz3 := hz 3
          have hz4 := hz 4
          have hz5 := hz 5
          simp only [List.getElem?_toArray, List.getElem?_cons_zero, List.getElem?_cons_succ] at hz0 hz1 hz2 hz3 hz4 hz5
          have hzf : ∀ o, wdh.frozen? ⟨w.heap.size, o, none⟩ = false := fun o => by simp [World.frozen?, HZ.out]
          have zf0 := hzf 0
          have zf1 := hzf 1
          have zf2 := hzf 2
          have zf3 := hzf 3
          have zf4 := hzf 4
          have zf5 := hzf 5
          clear hzf hz
          go_wp2_with fail
          obtain ⟨hx9, hc9⟩ := row6 HZ.out (.int .i64 13) (.bool false) (.string ⟨#[]⟩) (.int .i8 0) (.slice none 0 0) (.bool false) (HX0.out.trans hwdh) (Nat.le_refl _)
          have q0 := hc9 0
          have q1 := hc9 1
          have q2 := hc9 2
          have q3 := hc9 3
          have q4 := hc9 4
          have q5 := hc9 5
          simp only [List.getElem?_toArray, List.getElem?_cons_zero, List.getElem?_cons_succ] at q0 q1 q2 q3 q4 q5
          exact bodyPost_ret (v := nextV 13 false ⟨#[]⟩ 0 (.slice none 0 0) false) (by simp [results, Tryd.results48, go_sem, q0, q1, q2, q3, q4, q5, nextV]) rfl (by rw [HF2.out]; exact ⟨rfl, hx9⟩)
        · have b2 : ((nu2 : Int) == (su : Int)) = false := beq_eq_false_iff_ne.2 (by omega)
          have HF2 : Hid (F = .bad) := Lib.hid (by rw [← HF.out]; exact fe_bad2 (by have := Hbl.out; omega) (Hnu.out.trans Hnt.out) (by rw [Hnu2.out, Hse.out]; exact hns))
          clear hns
          repeat (first | (refine lin_take ?_ (by rfl) (fun wx hx => ?_) ?_; rotate_left; go_simp; (with_reducible rfl); try simp only [Act.put, List.setIfInBounds_toArray, List.set_cons_zero, List.set_cons_succ]) | (refine lin_skip (by rfl) ?_; try simp only [Act.put, List.setIfInBounds_toArray, List.set_cons_zero, List.set_cons_succ]) | (refine lin_take3 ?_ (by rfl) (fun wx hx => ?_) ?_; rotate_left; go_simp; (with_reducible rfl); try simp only [Act.put, List.setIfInBounds_toArray, List.set_cons_zero, List.set_cons_succ]) | (refine lin_skip3 (by rfl) ?_; try simp only [Act.put, List.setIfInBounds_toArray, List.set_cons_zero, List.set_cons_succ]))
          refine lin_nil ?_
          clear K0 K1 K2 s2 s3 a5 a6 a7
          have HZ := Lib.hid ((Mod.block hwdh _ hs0 (fun f => f)).trans HZ0.out)
          have hz := fun i => cell_of_row _ _ i _ 70 (0, 0) HZ.out
          have hz0 := hz 0
          have hz1 := hz 1
          have hz2 := hz 2
          have hz3 := hz 3
          have hz4 := hz 4
          have hz5 := hz 5
          simp only [List.getElem?_toArray, List.getElem?_cons_zero, List.getElem?_cons_succ] at hz0 hz1 hz2 hz3 hz4 hz5
          have hzf : ∀ o, wdh.frozen? ⟨w.heap.size, o, none⟩ = false := fun o => by simp [World.frozen?, HZ.out]
          have zf0 := hzf 0
          have zf1 := hzf 1
          have zf2 := hzf 2
          have zf3 := hzf 3
          have zf4 := hzf 4
          have zf5 := hzf 5
          clear hzf hz
          go_wp2_with fail
          obtain ⟨hx9, hc9⟩ := row6 HZ.out (.int .i64 0) (.bool false) (.string ⟨#[]⟩) (.int .i8 0) (.slice none 0 0) (.bool true) (HX0.out.trans hwdh) (Nat.le_refl _)
          have q0 := hc9 0
          have q1 := hc9 1
          have q2 := hc9 2
          have q3 := hc9 3
          have q4 := hc9 4
          have q5 := hc9 5
          simp only [List.getElem?_toArray, List.getElem?_cons_zero, List.getElem?_cons_succ] at q0 q1 q2 q3 q4 q5
          exact bodyPost_ret (v := nextV 0 false ⟨#[]⟩ 0 (.slice none 0 0) true) (by simp [results, Tryd.results48, go_sem, q0, q1, q2, q3, q4, q5, nextV]) rfl (by rw [HF2.out]; exact ⟨rfl, hx9⟩)
    · have b1 : ((nu : Int) == (t : Int)) = false := beq_eq_false_iff_ne.2 (by omega)
      have HF2 : Hid (F = .bad) := Lib.hid (by rw [← HF.out]; exact fe_bad1 (by have := Hbl.out; omega) (by rw [Hnu.out]; exact hnt))
      clear hnt
      repeat (first | (refine lin_take ?_ (by rfl) (fun wx hx => ?_) ?_; rotate_left; go_simp; (with_reducible rfl); try simp only [Act.put, List.setIfInBounds_toArray, List.set_cons_zero, List.set_cons_succ]) | (refine lin_skip (by rfl) ?_; try simp only [Act.put, List.setIfInBounds_toArray, List.set_cons_zero, List.set_cons_succ]) | (refine lin_take3 ?_ (by rfl) (fun wx hx => ?_) ?_; rotate_left; go_simp; (with_reducible rfl); try simp only [Act.put, List.setIfInBounds_toArray, List.set_cons_zero, List.set_cons_succ]) | (refine lin_skip3 (by rfl) ?_; try simp only [Act.put, List.setIfInBounds_toArray, List.set_cons_zero, List.set_cons_succ]))
      refine lin_nil ?_
      clear s15 k5 K0 K1 K2
      have HZ := Lib.hid ((Mod.block hwde _ hs0 (fun f => f)).trans HZ0.out)
      have hz := fun i => cell_of_row _ _ i _ 70 (0, 0) HZ.out
      have hz0 := hz 0
      have hz1 := hz 1
      have hz2 := hz 2
      have hz3 := hz 3
      have hz4 := hz 4
      have hz5 := hz 5
      simp only [List.getElem?_toArray, List.getElem?_cons_zero, List.getElem?_cons_succ] at hz0 hz1 hz2 hz3 hz4 hz5
      have hzf : ∀ o, wde.frozen? ⟨w.heap.size, o, none⟩ = false := fun o => by simp [World.frozen?, HZ.out]
      have zf0 := hzf 0
      have zf1 := hzf 1
      have zf2 := hzf 2
      have zf3 := hzf 3
      have zf4 := hzf 4
      have zf5 := hzf 5
      clear hzf hz
      go_wp2_with fail
      obtain ⟨hx9, hc9⟩ := row6 HZ.out (.int .i64 0) (.bool false) (.string ⟨#[]⟩) (.int .i8 0) (.slice none 0 0) (.bool true) (HX0.out.trans hwde) (Nat.le_refl _)
      have q0 := hc9 0
      have q1 := hc9 1
      have q2 := hc9 2
      have q3 := hc9 3
      have q4 := hc9 4
      have q5 := hc9 5
      simp only [List.getElem?_toArray, List.getElem?_cons_zero, List.getElem?_cons_succ] at q0 q1 q2 q3 q4 q5
      exact bodyPost_ret (v := nextV 0 false ⟨#[]⟩ 0 (.slice none 0 0) true) (by simp [results, Tryd.results48, go_sem, q0, q1, q2, q3, q4, q5, nextV]) rfl (by rw [HF2.out]; exact ⟨rfl, hx9⟩)
  · have HF2 : Hid (F = .wait) := Lib.hid (by rw [← HF.out]; exact fe_wait (by have := Hbl.out; omega) (fun h => by have := Hbl.out; omega))
    have k5 : decide ((5 : Int) ≤ (L : Int)) = false := decide_eq_false (by omega)
    refine region_lin (fun wx => Ext w0 wx) 100000 [(0, 3), (1, 3), (2, 3), (3, 3), (4, 3), (5, 3), (7, 3), (8, 3), (9, 3), (10, 0), (11, 3), (6, 1), (12, 3), (13, 3)] ?_ (by kernel_rfl) (by kernel_rfl) ?_ (fun _ _ _ _ _ h => h) (HXd.out.drew) ?_
    rotate_left
    (simp only [planOps, List.mapM_cons, List.mapM_nil, List.getElem?_toArray, List.getElem?_cons_zero, List.getElem?_cons_succ, Option.map_some, Option.bind_eq_bind, Option.bind_some, Option.pure_def]; rfl)
    intro wde hwde hxde
    repeat (first | (refine lin_take ?_ (by rfl) (fun wx hx => ?_) ?_; rotate_left; go_simp; (with_reducible rfl); try simp only [Act.put, List.setIfInBounds_toArray, List.set_cons_zero, List.set_cons_succ]) | (refine lin_skip (by rfl) ?_; try simp only [Act.put, List.setIfInBounds_toArray, List.set_cons_zero, List.set_cons_succ]) | (refine lin_take3 ?_ (by rfl) (fun wx hx => ?_) ?_; rotate_left; go_simp; (with_reducible rfl); try simp only [Act.put, List.setIfInBounds_toArray, List.set_cons_zero, List.set_cons_succ]) | (refine lin_skip3 (by rfl) ?_; try simp only [Act.put, List.setIfInBounds_toArray, List.set_cons_zero, List.set_cons_succ]))
    refine lin_pass (by rfl) hwde ?_
    try simp only [Act.put, List.setIfInBounds_toArray, List.set_cons_zero, List.set_cons_succ]
    repeat (first | (refine lin_take ?_ (by rfl) (fun wx hx => ?_) ?_; rotate_left; go_simp; (with_reducible rfl); try simp only [Act.put, List.setIfInBounds_toArray, List.set_cons_zero, List.set_cons_succ]) | (refine lin_skip (by rfl) ?_; try simp only [Act.put, List.setIfInBounds_toArray, List.set_cons_zero, List.set_cons_succ]) | (refine lin_take3 ?_ (by rfl) (fun wx hx => ?_) ?_; rotate_left; go_simp; (with_reducible rfl); try simp only [Act.put, List.setIfInBounds_toArray, List.set_cons_zero, List.set_cons_succ]) | (refine lin_skip3 (by rfl) ?_; try simp only [Act.put, List.setIfInBounds_toArray, List.set_cons_zero, List.set_cons_succ]))
    refine lin_nil ?_
    clear K0 K1 K2
    have HZ := Lib.hid ((Mod.block hwde _ hs0 (fun f => f)).trans HZ0.out)
    have hz := fun i => cell_of_row _ _ i _ 70 (0, 0) HZ.out
    have hz0 := hz 0
    have hz1 := hz 1
    have hz2 := hz 2
    have hz3 := hz 3
    have hz4 := hz 4
    have hz5 := hz 5
    simp only [List.getElem?_toArray, List.getElem?_cons_zero, List.getElem?_cons_succ] at hz0 hz1 hz2 hz3 hz4 hz5
    have hzf : ∀ o, wde.frozen? ⟨w.heap.size, o, none⟩ = false := fun o => by simp [World.frozen?, HZ.out]
    have zf0 := hzf 0
    have zf1 := hzf 1
    have zf2 := hzf 2
    have zf3 := hzf 3
    have zf4 := hzf 4
    have zf5 := hzf 5
    clear hzf hz
    go_wp2_with fail
    obtain ⟨hx9, hc9⟩ := row6 HZ.out (.int .i64 0) (.bool false) (.string ⟨#[]⟩) (.int .i8 0) (.slice none 0 0) (.bool false) (HX0.out.trans hwde) (Nat.le_refl _)
    have q0 := hc9 0
    have q1 := hc9 1
    have q2 := hc9 2
    have q3 := hc9 3
    have q4 := hc9 4
    have q5 := hc9 5
    simp only [List.getElem?_toArray, List.getElem?_cons_zero, List.getElem?_cons_succ] at q0 q1 q2 q3 q4 q5
    exact bodyPost_ret (v := nextV 0 false ⟨#[]⟩ 0 (.slice none 0 0) false) (by simp [results, Tryd.results48, go_sem, q0, q1, q2, q3, q4, q5, nextV]) rfl (by rw [HF2.out]; exact ⟨rfl, hx9⟩)
end Go.Proofs.YtcpnnkkfndgpjaaDoor
