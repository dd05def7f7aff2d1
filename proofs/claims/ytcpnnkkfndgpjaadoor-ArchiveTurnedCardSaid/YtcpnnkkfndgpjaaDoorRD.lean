/- The next thing that is whole, where the end stands at the front. -/
import Derived.Test.YtcpnnkkfndgpjaaDoorRC
namespace Go.Proofs.YtcpnnkkfndgpjaaDoor
open Go.RowKit

def set3 (w : World) (i : Nat) (p : Value) (k : Int) (d : Value) : World := ((w.setCell ⟨i, 0, none⟩ p).setCell ⟨i, 1, none⟩ (.int .i8 k)).setCell ⟨i, 2, none⟩ d
theorem set3_mod (w : World) (i : Nat) (p : Value) (k : Int) (d : Value) : Mod (fun j => j = i) w (set3 w i p k d) :=
  ((mod_set w i 0 _).trans (mod_set _ i 1 _) (fun _ _ e => e)).trans (mod_set _ i 2 _) (fun _ _ e => e)
theorem ItAt.set3 {w : World} {i : Nat} {p d p' d' : Value} {k k' : Int} (h : ItAt w i p k d) : ItAt (set3 w i p' k' d') i p' k' d' := heap_setCell_at (heap_setCell_at (heap_setCell_at h _) _) _
theorem StepPost.shape {Z : Sp} {x : Rd} {r n c : Nat} {A : Option Addr} {w w' : World} {e : Ending} (h : StepPost Z x r A n c w e w') : e = tornV ∨ ∃ p k D dn dc b, e = .returned (.tuple #[.agg #[.string p, .int .i8 k, .slice D dn dc], .bool b]) := by
  obtain ⟨-, y, -, h⟩ := h
  rcases h with ⟨h, -⟩ | ⟨-, ⟨p, k, h⟩, -⟩ | ⟨it, z, -, D, dc, A', n', c', h, -⟩
  · exact .inl h
  · exact .inr ⟨_, _, _, _, _, _, h⟩
  · exact .inr ⟨_, _, _, _, _, _, h⟩
/-- What the step behind a silent one hands back is handed on through block i. -/
theorem StepPost.out {Z : Sp} {x y : Rd} {r n c n1 c1 i : Nat} {A A1 : Option Addr} {w w0 w1 : World} {p : ByteArray} {k : Int} {d : Value} {b : Bool}
    (h : StepPost Z y r A1 n1 c1 w0 (.returned (.tuple #[.agg #[.string p, .int .i8 k, d], .bool b])) w1) (hs : stp Z x = .go none y) (hm : Mod (fun k => k = r) w w0) (ho : (Value.slice A1 n1 c1).ownBlock = (Value.slice A n c).ownBlock)
    (hi : w.heap.size ≤ i) (hi0 : i < w0.heap.size) (hir : i ≠ r) (hA : ∀ j, (Value.slice A n c).ownBlock = some j → j < w.heap.size) :
    StepPost Z x r A n c w (.returned (.tuple #[.agg #[.string p, .int .i8 k, d], .bool b])) (set3 w1 i (.string p) k d) := by
  have hI := set3_mod w1 i (.string p) k d
  obtain ⟨h1, z, h2, h3⟩ := h
  refine ⟨(hm.trans h1 (fun _ _ e => e)).trans hI (fun j hj e => by omega), z, .step hs h2, ?_⟩
  rcases h3 with ⟨h3, -⟩ | ⟨h3, ⟨p', k', h4⟩, A', n', c', h5, h6⟩ | ⟨it, z', h3, D, dc, A', n', c', h4, h5, h6, h7, h8⟩
  · cases h3
  · exact .inr (.inl ⟨h3, ⟨p', k', h4⟩, A', n', c', h5.mod hI (fun e => hir e.symm) (fun j hj e => by rw [h6, ho] at hj; have := hA j hj; omega), h6.trans ho⟩)
  · exact .inr (.inr ⟨it, z', h3, D, dc, A', n', c', h4, h5.mod hI (fun e => hir e.symm) (fun j hj e => by rw [h6, ho] at hj; have := hA j hj; omega), h6.trans ho, h7.mod hI (fun j hj e => by have := h8 j hj; omega), fun j hj => Nat.le_trans hm.size (h8 j hj)⟩)
theorem end_bad {Z : Sp} {items sum : Nat} {b : Bs} (h5 : 5 ≤ b.length) (h : numL ((b.drop 1).take 4) ≠ items) : frontEnd Z items sum b = .bad := by unfold frontEnd; rw [if_pos ⟨h5, h⟩]
theorem end_wait {Z : Sp} {items sum : Nat} {b : Bs} (h5 : 5 ≤ b.length → numL ((b.drop 1).take 4) = items) (h : b.length < 13) : frontEnd Z items sum b = .wait := by unfold frontEnd; rw [if_neg (fun e => e.2 (h5 e.1)), if_pos h]
theorem end_bad2 {Z : Sp} {items sum : Nat} {b : Bs} (h1 : numL ((b.drop 1).take 4) = items) (h : ¬ b.length < 13) (h2 : numL ((b.drop 5).take 8) ≠ fnv Z sum (b.take 5)) : frontEnd Z items sum b = .bad := by
  unfold frontEnd; rw [if_neg (fun e => e.2 h1), if_neg h, if_pos h2]
theorem end_fin {Z : Sp} {items sum : Nat} {b : Bs} (h1 : numL ((b.drop 1).take 4) = items) (h : ¬ b.length < 13) (h2 : numL ((b.drop 5).take 8) = fnv Z sum (b.take 5)) : frontEnd Z items sum b = .fin := by
  unfold frontEnd; rw [if_neg (fun e => e.2 h1), if_neg h, if_neg (fun e => e h2)]
set_option maxRecDepth 20000 in
set_option maxHeartbeats 4000000 in
theorem step_end (Z : Sp) (r : Nat) (A : Option Addr) (n c : Nat) (x : Rd) (t : Bs) (w : World) (hr : RdAt w r A n c x false) (hb : x.begun = true) (hd : x.done = false) (hk : x.b = 255 :: t) (hn : n ≤ 1073741824) (hi : x.items ≤ 1000000) (hsum : x.sum < 18446744073709551616) :
    Calls Tryd.prog 38 #[.pointer (some ⟨r, 0, none⟩)] w (StepPost Z x r A n c w) := by
  have HR := Lib.hid hr
  have HSum : Hid (True ∧ x.sum < 18446744073709551616) := ⟨trivial, hsum⟩
  clear hsum
  obtain ⟨d0, d1, d2, d3, d4, d5, d6, f0⟩ := hr.cells
  rw [hb] at d2
  rw [hd] at d6
  have hlen := hr.len
  have hrw : r < w.heap.size := hr.lt
  have hm0 : w.heap.size ≠ r := by omega
  have hn1 : 1 ≤ n := by rw [hlen, hk]; simp
  obtain ⟨g, off, rfl, hg⟩ : ∃ g off, A = some ⟨g, off, none⟩ ∧ g < w.heap.size := by obtain ⟨A', cap, hv, -, hp⟩ := hr.own.form; injection hv with h1; subst h1; exact hp (by omega)
  have hgr : g ≠ r := fun e => hr.apart (by simp [Value.ownBlock, e])
  have hnc : n ≤ c := by obtain ⟨_, _, hv, h2, -⟩ := hr.own.form; injection hv with _ _ h3; omega
  have c0 : w.cell? ⟨g, off, none⟩ = some (.int .u8 255) := by have := hr.own.cells rfl 0 (.int .u8 255) (by rw [hk]; rfl); simpa using this
  have HX1 : Hid (Ext w (w.alloc (.cells #[.string ⟨#[]⟩, .int .i8 0, .slice none 0 0] 50))) := (Ext.refl _).alloc _
  have HI1 : Hid (ItAt (w.alloc (.cells #[.string ⟨#[]⟩, .int .i8 0, .slice none 0 0] 50)) w.heap.size (.string ⟨#[]⟩) 0 (.slice none 0 0)) := Lib.hid (heap_alloc_new w _)
  have Hk := Lib.hid hk
  have Hb := Lib.hid hb
  have Hd := Lib.hid hd
  have Hlen := Lib.hid hlen
  obtain ⟨I, hI⟩ : ∃ I, x.items = I := ⟨_, rfl⟩
  rw [hI] at d3 hi
  have HI := Lib.hid hI
  have hiw : IntKind.u64.wrap (I : Int) = (I : Int) := IntWalk.u64_in _ (by omega)
  clear hr hb hd hlen f0 hk hI
  go_enter Tryd.func38, Tryd.ntmps38
  go_wp2_with fail
  refine wp_scope_ahead 1 (by rfl) ?_
  go_wp2_with fail
  refine wp_goto ?_
  refine ⟨rfl, ?_⟩
  by_cases h5 : n < 5
  · have Hs : Hid (stp Z x = .stop) := Lib.hid (by rw [stp_end Hb.out Hd.out Hk.out, end_wait (fun h => by have := Hlen.out; omega) (by have := Hlen.out; omega)])
    have h5' : ¬ ((5 : Int) ≤ (n : Int)) := by omega
    have h13' : ¬ ((13 : Int) ≤ (n : Int)) := by omega
    clear h5
    go_wp2_with fail
    rw [Exit.noGoto_ret]
    obtain ⟨z0, z1, z2, -⟩ := HI1.out.cells
    exact bodyPost_ret (v := .tuple #[.agg #[.string ⟨#[]⟩, .int .i8 0, .slice none 0 0], .bool false]) (by simp [results, Tryd.results38, go_sem, z0, z1, z2]) rfl (StepPost.stop (HR.out.ext HX1.out) (Mod.ext_r HX1.out) Hs.out)
  · have h5' : (5 : Int) ≤ (n : Int) := by omega
    have H5 : Hid (5 ≤ x.b.length) := Lib.hid (by have := Hlen.out; omega)
    clear h5
    go_wp2_with fail
    obtain ⟨w1, hw1⟩ : ∃ W, w.alloc (.cells #[.string ⟨#[]⟩, .int .i8 0, .slice none 0 0] 50) = W := ⟨_, rfl⟩
    rw [hw1] at HX1 HI1 ⊢
    clear hw1
    have k0 : ∀ wx, Ext w1 wx → wx.cell? ⟨r, 0, none⟩ = some (.slice (some ⟨g, off, none⟩) n c) := fun wx hx => ((HR.out.ext (HX1.out.trans hx)).cells).1
    have k3 : ∀ wx, Ext w1 wx → wx.cell? ⟨r, 3, none⟩ = some (.int .i64 (I : Int)) := fun wx hx => HI.out ▸ ((HR.out.ext (HX1.out.trans hx)).cells).2.2.2.1
    have HP4 : Hid (BySl w1 (some ⟨g, off + 1, none⟩) 4 ((x.b.drop 1).take 4)) := Lib.hid ((HR.out.bytes.part (i := 1) (k := 4) (by omega)).ext HX1.out)
    obtain ⟨nu, hnu⟩ : ∃ z, numL ((x.b.drop 1).take 4) = z := ⟨_, rfl⟩
    have Hnu := Lib.hid hnu
    have a5 : (5 : Int) ≤ (c : Int) := by omega
    have a1 : ¬ c = 1 := by omega
    clear hnu
    refine region_lin (fun wx => Ext w1 wx) 100000 [(0, 3), (1, 3), (2, 3), (3, 0), (4, 3), (6, 3), (7, 3), (8, 3), (9, 0), (10, 3), (5, 1), (11, 3), (12, 1)] ?_ (by kernel_rfl) (by kernel_rfl) ?_ (fun _ _ _ _ _ h => h) ((Ext.refl _).drew) ?_
    rotate_left
    (simp only [planOps, List.mapM_cons, List.mapM_nil, List.getElem?_toArray, List.getElem?_cons_zero, List.getElem?_cons_succ, Option.map_some, Option.bind_eq_bind, Option.bind_some, Option.pure_def]; rfl)
    intro wd hwd hxd
    repeat (first | (refine lin_take ?_ (by rfl) (fun wx hx => ?_) ?_; rotate_left; go_simp; (with_reducible rfl); try simp only [Act.put, List.setIfInBounds_toArray, List.set_cons_zero, List.set_cons_succ]) | (refine lin_skip (by rfl) ?_; try simp only [Act.put, List.setIfInBounds_toArray, List.set_cons_zero, List.set_cons_succ]) | (refine lin_take3 ?_ (by rfl) (fun wx hx => ?_) ?_; rotate_left; go_simp; (with_reducible rfl); try simp only [Act.put, List.setIfInBounds_toArray, List.set_cons_zero, List.set_cons_succ]) | (refine lin_skip3 (by rfl) ?_; try simp only [Act.put, List.setIfInBounds_toArray, List.set_cons_zero, List.set_cons_succ]))
    refine lin_run (by rfl) (fun KC hK => ?_)
    go_simp
    refine (number_any (some ⟨g, off + 1, none⟩) 4 _ _ wd (HP4.out.ext hwd) (by decide)).mono ?_
    rintro e w3 ⟨rfl, rfl⟩
    rw [Hnu.out]
    refine hK _ _ hwd ?_
    clear hK
    try simp only [Act.put, List.setIfInBounds_toArray, List.set_cons_zero, List.set_cons_succ]
    repeat (first | (refine lin_take ?_ (by rfl) (fun wx hx => ?_) ?_; rotate_left; go_simp; (with_reducible rfl); try simp only [Act.put, List.setIfInBounds_toArray, List.set_cons_zero, List.set_cons_succ]) | (refine lin_skip (by rfl) ?_; try simp only [Act.put, List.setIfInBounds_toArray, List.set_cons_zero, List.set_cons_succ]) | (refine lin_take3 ?_ (by rfl) (fun wx hx => ?_) ?_; rotate_left; go_simp; (with_reducible rfl); try simp only [Act.put, List.setIfInBounds_toArray, List.set_cons_zero, List.set_cons_succ]) | (refine lin_skip3 (by rfl) ?_; try simp only [Act.put, List.setIfInBounds_toArray, List.set_cons_zero, List.set_cons_succ]))
    have HX2 := Lib.hid (HX1.out.trans hwd)
    have HI2 := Lib.hid (HI1.out.ext hwd)
    have Hwd := Lib.hid hwd
    clear hwd hxd k0 k3 HI1 HX1 HP4
    by_cases hni : nu = I
    · have H1 : Hid (numL ((x.b.drop 1).take 4) = x.items) := Lib.hid (by rw [Hnu.out, HI.out]; exact hni)
      have b1 : ((nu : Int) == (I : Int)) = true := by rw [hni]; simp
      clear hni
      refine lin_run (by rfl) (fun KC hK => ?_)
      go_simp
      refine (must_yes _).mono ?_
      rintro e w3 ⟨rfl, rfl⟩
      refine hK _ _ Hwd.out ?_
      clear hK
      refine lin_nil ?_
      by_cases h13 : n < 13
      · have h13' : ¬ ((13 : Int) ≤ (n : Int)) := by omega
        have Hs : Hid (stp Z x = .stop) := Lib.hid (by rw [stp_end Hb.out Hd.out Hk.out, end_wait (fun h => H1.out) (by have := Hlen.out; omega)])
        obtain ⟨e0, e1, e2, e3, e4, e5, e6, ef⟩ := (HR.out.ext HX2.out).cells
        obtain ⟨q0, q1, q2, qf⟩ := HI2.out.cells
        have qf0 := qf 0
        have qf1 := qf 1
        have qf2 := qf 2
        obtain ⟨hit, hxe⟩ := HI2.out.again (p' := .string ⟨#[]⟩) (k' := 0) (d' := .slice none 0 0) HX2.out (Nat.le_refl _)
        have Hit := Lib.hid hit
        have Hxe := Lib.hid hxe
        clear h13 ef qf hit hxe
        go_wp2_with fail
        try rw [Exit.noGoto_ret]
        obtain ⟨z0, z1, z2, -⟩ := Hit.out.cells
        exact bodyPost_ret (v := .tuple #[.agg #[.string ⟨#[]⟩, .int .i8 0, .slice none 0 0], .bool false]) (by simp [results, Tryd.results38, go_sem, z0, z1, z2]) rfl (StepPost.stop (HR.out.ext Hxe.out) (Mod.ext_r Hxe.out) Hs.out)
      · have h13' : (13 : Int) ≤ (n : Int) := by omega
        have H13 : Hid (¬ x.b.length < 13) := Lib.hid (by have := Hlen.out; omega)
        clear h13
        obtain ⟨e0, e1, e2, e3, e4, e5, e6, ef⟩ := (HR.out.ext HX2.out).cells
        have HP5 : Hid (BySl wd (some ⟨g, off, none⟩) 5 (x.b.take 5)) := Lib.hid (by have := (HR.out.bytes.part (i := 0) (k := 5) (by omega)).ext HX2.out; simpa using this)
        go_wp2_with fail
        refine (run_any Z r (some ⟨g, off, none⟩) (some ⟨g, off, none⟩) n c 5 _ x false (x.b.take 5) wd (HR.out.ext HX2.out) HP5.out (fun b o e => by injection e with e; injection e with e1 e2; rw [← e1]; exact hgr) (by decide) HSum.out.2).mono ?_
        rintro e w5 ⟨rfl, hr5, hm5⟩
        obtain ⟨su, hsu⟩ : ∃ s, fnv Z x.sum (x.b.take 5) = s := ⟨_, rfl⟩
        have Hsu := Lib.hid hsu
        rw [hsu] at hr5
        have HR5 := Lib.hid hr5
        have HM5 : Hid (Mod (fun k => k = r) w w5) := Lib.hid (Mod.trans (T := fun k => k = r) (Mod.mono HX2.out (fun _ _ f => f.elim)) hm5 (fun _ _ e => e))
        have HI5 := Lib.hid (HI2.out.mod hm5 hm0)
        clear hr5 hm5 hsu e0 e1 e2 e3 e4 e5 e6 ef HI2 HP5 h13'
        go_wp2_with fail
        have k0 : ∀ wx, Ext w5 wx → wx.cell? ⟨r, 0, none⟩ = some (.slice (some ⟨g, off, none⟩) n c) := fun wx hx => ((HR5.out.ext hx).cells).1
        have k1 : ∀ wx, Ext w5 wx → wx.cell? ⟨r, 1, none⟩ = some (.int .u64 (su : Int)) := fun wx hx => ((HR5.out.ext hx).cells).2.1
        have HP8 : Hid (BySl w5 (some ⟨g, off + 5, none⟩) 8 ((x.b.drop 5).take 8)) := Lib.hid (HR5.out.bytes.part (i := 5) (k := 8) (by have := H13.out; have := Hlen.out; omega))
        obtain ⟨n8, hn8⟩ : ∃ z, numL ((x.b.drop 5).take 8) = z := ⟨_, rfl⟩
        have Hn8 := Lib.hid hn8
        have hn13 : (13 : Int) ≤ (n : Int) := by have := H13.out; have := Hlen.out; omega
        have a13 : (13 : Int) ≤ (c : Int) := by omega
        have a51 : ¬ c = 5 := by omega
        clear hn8
        refine region_lin (fun wx => Ext w5 wx) 100000 [(0, 3), (1, 3), (2, 3), (3, 0), (4, 3), (6, 3), (7, 3), (8, 3), (9, 0), (5, 1), (10, 3), (11, 1)] ?_ (by kernel_rfl) (by kernel_rfl) ?_ (fun _ _ _ _ _ h => h) (((Ext.refl _).drew)) ?_
        rotate_left
        (simp only [planOps, List.mapM_cons, List.mapM_nil, List.getElem?_toArray, List.getElem?_cons_zero, List.getElem?_cons_succ, Option.map_some, Option.bind_eq_bind, Option.bind_some, Option.pure_def]; rfl)
        intro wdb hwdb hxdb
        repeat (first | (refine lin_take ?_ (by rfl) (fun wx hx => ?_) ?_; rotate_left; go_simp; (with_reducible rfl); try simp only [Act.put, List.setIfInBounds_toArray, List.set_cons_zero, List.set_cons_succ]) | (refine lin_skip (by rfl) ?_; try simp only [Act.put, List.setIfInBounds_toArray, List.set_cons_zero, List.set_cons_succ]) | (refine lin_take3 ?_ (by rfl) (fun wx hx => ?_) ?_; rotate_left; go_simp; (with_reducible rfl); try simp only [Act.put, List.setIfInBounds_toArray, List.set_cons_zero, List.set_cons_succ]) | (refine lin_skip3 (by rfl) ?_; try simp only [Act.put, List.setIfInBounds_toArray, List.set_cons_zero, List.set_cons_succ]))
        refine lin_run (by rfl) (fun KC hK => ?_)
        go_simp
        refine (number_any (some ⟨g, off + 5, none⟩) 8 _ _ wdb (HP8.out.ext hwdb) (by decide)).mono ?_
        rintro e w6 ⟨rfl, rfl⟩
        rw [Hn8.out]
        refine hK _ _ hwdb ?_
        clear hK
        try simp only [Act.put, List.setIfInBounds_toArray, List.set_cons_zero, List.set_cons_succ]
        repeat (first | (refine lin_take ?_ (by rfl) (fun wx hx => ?_) ?_; rotate_left; go_simp; (with_reducible rfl); try simp only [Act.put, List.setIfInBounds_toArray, List.set_cons_zero, List.set_cons_succ]) | (refine lin_skip (by rfl) ?_; try simp only [Act.put, List.setIfInBounds_toArray, List.set_cons_zero, List.set_cons_succ]) | (refine lin_take3 ?_ (by rfl) (fun wx hx => ?_) ?_; rotate_left; go_simp; (with_reducible rfl); try simp only [Act.put, List.setIfInBounds_toArray, List.set_cons_zero, List.set_cons_succ]) | (refine lin_skip3 (by rfl) ?_; try simp only [Act.put, List.setIfInBounds_toArray, List.set_cons_zero, List.set_cons_succ]))
        have HR6 := Lib.hid (HR5.out.ext hwdb)
        have HM6 := Lib.hid (HM5.out.then_ hwdb)
        have HI6 := Lib.hid (HI5.out.ext hwdb)
        have Hwdb := Lib.hid hwdb
        clear hwdb hxdb k0 k1 HI5 HP8 HR5 HM5
        by_cases h8 : n8 = su
        · have b8 : ((n8 : Int) == (su : Int)) = true := by rw [h8]; simp
          have Hs : Hid (stp Z x = .go none { x with b := x.b.drop 13, sum := su, done := true }) := Lib.hid (by rw [stp_end Hb.out Hd.out Hk.out, end_fin H1.out H13.out (by rw [Hn8.out, Hsu.out]; exact h8)]; show Stp.go none { x with b := x.b.drop 13, sum := fnv Z x.sum (x.b.take 5), done := true } = _; rw [Hsu.out])
          clear h8
          refine lin_run (by rfl) (fun KC hK => ?_)
          go_simp
          refine (must_yes _).mono ?_
          rintro e w7 ⟨rfl, rfl⟩
          refine hK _ _ Hwdb.out ?_
          clear hK
          refine lin_nil ?_
          obtain ⟨e0, e1, e2, e3, e4, e5, e6, ef⟩ := HR6.out.cells
          have ef0 := ef 0
          have ef6 := ef 6
          have HO := Lib.hid (HR6.out.own.tail (k := 13) (by omega))
          simp only at e0 e1 e2 e3 e4 e5 e6
          clear ef
          by_cases hc13 : c = 13
          rotate_left
          · go_wp2_with fail
            have hto : (Value.slice (some ⟨g, off + 13, none⟩) (n - 13) (c - 13)).ownBlock = (Value.slice (some ⟨g, off, none⟩) n c).ownBlock := rfl
            have HY : Hid (RdAt ((wdb.setCell ⟨r, 0, none⟩ (.slice (some ⟨g, off + 13, none⟩) (n - 13) (c - 13))).setCell ⟨r, 6, none⟩ (.bool true)) r (some ⟨g, off + 13, none⟩) (n - 13) (c - 13) { x with b := x.b.drop 13, sum := su, done := true } false) := Lib.hid (by
              have ho := HO.out
              rw [if_neg hc13] at ho
              exact (RdAt.setB (x := { x with sum := su }) HR6.out ho (by simp [Value.ownBlock]; exact hgr)).setDone true)
            have hM8 : Mod (fun k => k = r) wdb ((wdb.setCell ⟨r, 0, none⟩ (.slice (some ⟨g, off + 13, none⟩) (n - 13) (c - 13))).setCell ⟨r, 6, none⟩ (.bool true)) := (mod_set wdb r 0 _).trans (mod_set _ r 6 _) (fun _ _ e => e)
            have HM8 : Hid (Mod (fun k => k = r) w ((wdb.setCell ⟨r, 0, none⟩ (.slice (some ⟨g, off + 13, none⟩) (n - 13) (c - 13))).setCell ⟨r, 6, none⟩ (.bool true))) := Lib.hid (HM6.out.trans hM8 (fun _ _ e => e))
            have HI8 := Lib.hid (HI6.out.mod hM8 hm0)
            obtain ⟨w8, hw8⟩ : ∃ W, (wdb.setCell ⟨r, 0, none⟩ (.slice (some ⟨g, off + 13, none⟩) (n - 13) (c - 13))).setCell ⟨r, 6, none⟩ (.bool true) = W := ⟨_, rfl⟩
            rw [hw8] at HY HM8 HI8 ⊢
            clear hw8 hM8 e0 e1 e2 e3 e4 e5 e6 ef0 ef6
            refine (step_done Z r (some ⟨g, off + 13, none⟩) (n - 13) (c - 13) { x with b := x.b.drop 13, sum := su, done := true } w8 HY.out Hb.out rfl).mono ?_
            intro e w9 hp
            have Hpp := Lib.hid hp
            have HI9 := Lib.hid (HI8.out.mod hp.1 hm0)
            rcases hp.shape with rfl | ⟨p, kk, D, dn, dc, bb, rfl⟩
            · exact ⟨rfl, StepPost.behind Hs.out HM8.out hto Hpp.out⟩
            · have Hst := Lib.hid (Hpp.out.out (i := w.heap.size) Hs.out HM8.out hto (Nat.le_refl _) HI8.out.lt hm0 (fun j hj => by simp [Value.ownBlock] at hj; omega))
              have Hit := Lib.hid (HI9.out.set3 (p' := .string p) (k' := kk) (d' := .slice D dn dc))
              obtain ⟨q0, q1, q2, qf⟩ := HI9.out.cells
              have qf0 := qf 0
              have qf1 := qf 1
              have qf2 := qf 2
              clear qf hp hto
              go_wp2_with fail
              try rw [Exit.noGoto_ret]
              obtain ⟨z0, z1, z2, -⟩ := Hit.out.cells
              have hst := Hst.out
              unfold set3 at z0 z1 z2 hst
              exact bodyPost_ret (v := .tuple #[.agg #[.string p, .int .i8 kk, .slice D dn dc], .bool bb]) (by simp [results, Tryd.results38, go_sem, z0, z1, z2]) rfl hst
          · have hn13' : n = 13 := by omega
            subst hc13 hn13'
            have hc13 : True := trivial
            go_wp2_with fail
            have hto : (Value.slice (some ⟨g, off, none⟩) 0 0).ownBlock = (Value.slice (some ⟨g, off, none⟩) 13 13).ownBlock := rfl
            have HY : Hid (RdAt ((wdb.setCell ⟨r, 0, none⟩ (.slice (some ⟨g, off, none⟩) 0 0)).setCell ⟨r, 6, none⟩ (.bool true)) r (some ⟨g, off, none⟩) 0 0 { x with b := x.b.drop 13, sum := su, done := true } false) := Lib.hid (by
              have ho := HO.out
              rw [if_pos trivial] at ho
              exact (RdAt.setB (x := { x with sum := su }) HR6.out ho (by simp [Value.ownBlock]; exact hgr)).setDone true)
            have hM8 : Mod (fun k => k = r) wdb ((wdb.setCell ⟨r, 0, none⟩ (.slice (some ⟨g, off, none⟩) 0 0)).setCell ⟨r, 6, none⟩ (.bool true)) := (mod_set wdb r 0 _).trans (mod_set _ r 6 _) (fun _ _ e => e)
            have HM8 : Hid (Mod (fun k => k = r) w ((wdb.setCell ⟨r, 0, none⟩ (.slice (some ⟨g, off, none⟩) 0 0)).setCell ⟨r, 6, none⟩ (.bool true))) := Lib.hid (HM6.out.trans hM8 (fun _ _ e => e))
            have HI8 := Lib.hid (HI6.out.mod hM8 hm0)
            obtain ⟨w8, hw8⟩ : ∃ W, (wdb.setCell ⟨r, 0, none⟩ (.slice (some ⟨g, off, none⟩) 0 0)).setCell ⟨r, 6, none⟩ (.bool true) = W := ⟨_, rfl⟩
            rw [hw8] at HY HM8 HI8 ⊢
            clear hw8 hM8 e0 e1 e2 e3 e4 e5 e6 ef0 ef6
            refine (step_done Z r (some ⟨g, off, none⟩) 0 0 { x with b := x.b.drop 13, sum := su, done := true } w8 HY.out Hb.out rfl).mono ?_
            intro e w9 hp
            have Hpp := Lib.hid hp
            have HI9 := Lib.hid (HI8.out.mod hp.1 hm0)
            rcases hp.shape with rfl | ⟨p, kk, D, dn, dc, bb, rfl⟩
            · exact ⟨rfl, StepPost.behind Hs.out HM8.out hto Hpp.out⟩
            · have Hst := Lib.hid (Hpp.out.out (i := w.heap.size) Hs.out HM8.out hto (Nat.le_refl _) HI8.out.lt hm0 (fun j hj => by simp [Value.ownBlock] at hj; omega))
              have Hit := Lib.hid (HI9.out.set3 (p' := .string p) (k' := kk) (d' := .slice D dn dc))
              obtain ⟨q0, q1, q2, qf⟩ := HI9.out.cells
              have qf0 := qf 0
              have qf1 := qf 1
              have qf2 := qf 2
              clear qf hp hto
              go_wp2_with fail
              try rw [Exit.noGoto_ret]
              obtain ⟨z0, z1, z2, -⟩ := Hit.out.cells
              have hst := Hst.out
              unfold set3 at z0 z1 z2 hst
              exact bodyPost_ret (v := .tuple #[.agg #[.string p, .int .i8 kk, .slice D dn dc], .bool bb]) (by simp [results, Tryd.results38, go_sem, z0, z1, z2]) rfl hst
        · have b8 : ((n8 : Int) == (su : Int)) = false := beq_eq_false_iff_ne.2 (by omega)
          have Hs : Hid (stp Z x = .tear) := Lib.hid (by rw [stp_end Hb.out Hd.out Hk.out, end_bad2 H1.out H13.out (by rw [Hn8.out, Hsu.out]; exact h8)])
          clear h8
          refine lin_run (by rfl) (fun KC hK => ?_)
          go_simp
          refine (must_no _).mono ?_
          rintro e w7 ⟨rfl, rfl⟩
          exact ⟨rfl, HM6.out, x, .refl _, .inl ⟨rfl, Hs.out, _, _, _, _, HR6.out⟩⟩
    · have b1 : ((nu : Int) == (I : Int)) = false := beq_eq_false_iff_ne.2 (by omega)
      have Hs : Hid (stp Z x = .tear) := Lib.hid (by rw [stp_end Hb.out Hd.out Hk.out, end_bad H5.out (by rw [Hnu.out, HI.out]; exact hni)])
      clear hni
      refine lin_run (by rfl) (fun KC hK => ?_)
      go_simp
      refine (must_no _).mono ?_
      rintro e w3 ⟨rfl, rfl⟩
      exact ⟨rfl, StepPost.tear (HR.out.ext HX2.out) (Mod.ext_r HX2.out) Hs.out⟩
end Go.Proofs.YtcpnnkkfndgpjaaDoor
