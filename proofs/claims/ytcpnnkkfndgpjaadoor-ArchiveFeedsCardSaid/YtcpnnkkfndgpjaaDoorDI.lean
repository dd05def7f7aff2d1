/- What stands at the front, as the document has it: next. -/
import Derived.Test.YtcpnnkkfndgpjaaDoorDH
namespace Go.Proofs.YtcpnnkkfndgpjaaDoor
open Go.RowKit

theorem front_cons {Z : Sp} {items sum : Nat} {ahead t : Bs} {k : UInt8} : front Z items ahead sum (k :: t) = if k = 255 then frontEnd Z items sum (k :: t) else frontItem Z items ahead k (k :: t) := rfl
theorem holds_le {k : Int} {M : Nat} (hk : kindB k = true) : ((M : Int) ≤ holdsN k) ↔ (M ≤ 4194304 ∧ ¬ (dryB k = true ∧ 0 < M)) := by
  rw [kindB_holds, decide_eq_true_eq] at hk
  unfold dryB
  unfold holdsN at hk ⊢
  by_cases h0 : k = 0
  · simp [h0]; omega
  by_cases h1 : k = 1
  · simp [h1]; omega
  by_cases h2 : k = 2
  · simp [h2]; omega
  by_cases h4 : k = 4
  · simp [h4]; omega
  simp [h0, h1, h2, h4] at hk
theorem slice_any {g o L C i : Nat} (h1 : i ≤ L) : ∃ A', ∀ wx, (Instr.slice 26 (.slice (some ⟨g, o, none⟩) L C) (some (.int .i64 (i : Int))) none none).run Tryd.prog wx = .ok (.slice A' (L - i) (C - i)) wx := by
  have he : Tryd.prog.elem 26 = 5 := by kernel_rfl
  refine ⟨if C = i then some ⟨g, o, none⟩ else (some (⟨g, o, none⟩ : Addr)).map (·.add (i * 1)), fun wx => ?_⟩
  rw [run_slice_l (P := Tryd.prog) wx 26 _ L C (by rw [he]; exact Tryd.underlying26) .i64 _ (by omega) (by omega), he, Tryd.sizeOf5]
  rfl
set_option maxRecDepth 20000 in
set_option maxHeartbeats 16000000 in
theorem rnext_any (Z : Sp) (hZ : Z.ok = okP) (r : Nat) (A : Option Addr) (n c : Nat) (B : Bs) (f t : Nat) (a : Bs) (torn whole : Bool) (w : World) (hr : RfAt w r A n c B f t a torn whole) (hn : n ≤ 1073741824) (hf : f ≤ n) (hn0 : 0 < n) (ht : t ≤ 1000000) (hta : t = 0 → a = []) :
    Calls Tryd.prog 40 #[.pointer (some ⟨r, 0, none⟩)] w (NextPost (front Z t a (fnv Z fnv0 (B.take f)) (B.drop f)) w) := by
  have HR := Lib.hid hr
  have hlen := hr.len
  have hnc : n ≤ c := by obtain ⟨_, _, hv, h2, -⟩ := hr.own.form; injection hv with _ _ h3; omega
  obtain ⟨g, off, rfl, hg⟩ : ∃ g off, A = some ⟨g, off, none⟩ ∧ g < w.heap.size := by obtain ⟨A', cap, hv, -, hp⟩ := hr.own.form; injection hv with h1; subst h1; exact hp hn0
  obtain ⟨S, hS⟩ : ∃ S, fnv Z fnv0 (B.take f) = S := ⟨_, rfl⟩
  have HSS := Lib.hid hS
  rw [hS]
  obtain ⟨F, hF⟩ : ∃ F, front Z t a S (B.drop f) = F := ⟨_, rfl⟩
  rw [hF]
  have HF := Lib.hid hF
  have Hta := Lib.hid hta
  obtain ⟨b, hb⟩ : ∃ b, B.drop f = b := ⟨_, rfl⟩
  have hbl : b.length = n - f := by rw [← hb, List.length_drop, hlen]
  have Hb := Lib.hid hb
  rw [hb] at HF
  obtain ⟨L, hL⟩ : ∃ L, n - f = L := ⟨_, rfl⟩
  obtain ⟨C, hC⟩ : ∃ C, c - f = C := ⟨_, rfl⟩
  have hLC : L ≤ C := by omega
  have hLm : L ≤ 1073741824 := by omega
  rw [hL] at hbl
  have Hbl := Lib.hid hbl
  have HL := Lib.hid hL
  have HX0 : Hid (Ext w (w.alloc (.cells #[.int .i64 0, .bool false, .string ⟨#[]⟩, .int .i8 0, .slice none 0 0, .bool false] 70))) := Lib.hid ((Ext.refl _).alloc _)
  have HZ0 : Hid ((w.alloc (.cells #[.int .i64 0, .bool false, .string ⟨#[]⟩, .int .i8 0, .slice none 0 0, .bool false] 70)).heap[w.heap.size]? = some (.cells #[.int .i64 0, .bool false, .string ⟨#[]⟩, .int .i8 0, .slice none 0 0, .bool false] 70 (0, 0))) := Lib.hid (heap_alloc_new w _)
  obtain ⟨w0, hw0⟩ : ∃ W, w.alloc (.cells #[.int .i64 0, .bool false, .string ⟨#[]⟩, .int .i8 0, .slice none 0 0, .bool false] 70) = W := ⟨_, rfl⟩
  have hs0 : w.heap.size < w0.heap.size := by rw [← hw0]; simp
  rw [hw0] at HX0 HZ0
  have HW0 := Lib.hid hw0
  have K0 : ∀ wx, Ext w0 wx → wx.cell? ⟨r, 0, none⟩ = some (.slice (some ⟨g, off, none⟩) n c) := fun wx h => ((HR.out.ext (HX0.out.trans h)).cells).1
  have K1 : ∀ wx, Ext w0 wx → wx.cell? ⟨r, 1, none⟩ = some (.int .i64 (f : Int)) := fun wx h => ((HR.out.ext (HX0.out.trans h)).cells).2.1
  have HK2 : Hid (∀ wx, Ext w0 wx → wx.cell? ⟨r, 2, none⟩ = some (.int .i64 (t : Int))) := Lib.hid (fun wx h => ((HR.out.ext (HX0.out.trans h)).cells).2.2.1)
  have HK3 : Hid (∀ wx, Ext w0 wx → wx.cell? ⟨r, 3, none⟩ = some (.string (mkB a))) := Lib.hid (fun wx h => ((HR.out.ext (HX0.out.trans h)).cells).2.2.2.1)
  clear hr hlen hF hb hbl hS hta hw0
  by_cases hfn : f = n
  · have HF2 : Hid (F = .wait) := Lib.hid (by rw [← HF.out, List.eq_nil_of_length_eq_zero (show b.length = 0 by rw [Hbl.out]; omega)]; rfl)
    obtain ⟨A', hsl⟩ := slice_any (g := g) (o := off) (L := n) (C := c) (i := f) hf
    rw [hL, hC] at hsl
    obtain rfl : L = 0 := by omega
    clear hL hC hfn
    go_enter Tryd.func40, Tryd.ntmps40
    go_wp2_with fail
    rw [HW0.out]
    refine region_lin (fun wx => Ext w0 wx) 100000 [(0, 3), (1, 3), (2, 3), (3, 0), (4, 3), (5, 3), (6, 3), (7, 0), (8, 3), (9, 3)] ?_ (by kernel_rfl) (by kernel_rfl) ?_ (fun _ _ _ _ _ h => h) ((Ext.refl _).drew) ?_
    rotate_left
    (simp only [planOps, List.mapM_cons, List.mapM_nil, List.getElem?_toArray, List.getElem?_cons_zero, List.getElem?_cons_succ, Option.map_some, Option.bind_eq_bind, Option.bind_some, Option.pure_def]; rfl)
    intro wd hwd hxd
    repeat (first | (refine lin_take ?_ (by rfl) (fun wx hx => ?_) ?_; rotate_left; go_simp; (with_reducible rfl); try simp only [Act.put, List.setIfInBounds_toArray, List.set_cons_zero, List.set_cons_succ]) | (refine lin_skip (by rfl) ?_; try simp only [Act.put, List.setIfInBounds_toArray, List.set_cons_zero, List.set_cons_succ]) | (refine lin_take3 ?_ (by rfl) (fun wx hx => ?_) ?_; rotate_left; go_simp; (with_reducible rfl); try simp only [Act.put, List.setIfInBounds_toArray, List.set_cons_zero, List.set_cons_succ]) | (refine lin_skip3 (by rfl) ?_; try simp only [Act.put, List.setIfInBounds_toArray, List.set_cons_zero, List.set_cons_succ]))
    refine lin_nil ?_
    clear K0 K1
    have HZ := Lib.hid ((Mod.block hwd _ hs0 (fun f => f)).trans HZ0.out)
    have hz := fun i => cell_of_row _ _ i _ 70 (0, 0) HZ.out
    have hz0 := hz 0
    have hz1 := hz 1
    have hz2 := hz 2
    have hz3 := hz 3
    have hz4 := hz 4
    have hz5 := hz 5
    simp only [List.getElem?_toArray, List.getElem?_cons_zero, List.getElem?_cons_succ] at hz0 hz1 hz2 hz3 hz4 hz5
    have hzf : ∀ o, wd.frozen? ⟨w.heap.size, o, none⟩ = false := fun o => by simp [World.frozen?, HZ.out]
    have zf0 := hzf 0
    have zf1 := hzf 1
    have zf2 := hzf 2
    have zf3 := hzf 3
    have zf4 := hzf 4
    have zf5 := hzf 5
    clear hzf hz
    go_wp2_with fail
    obtain ⟨hx9, hc9⟩ := row6 HZ.out (.int .i64 0) (.bool false) (.string ⟨#[]⟩) (.int .i8 0) (.slice none 0 0) (.bool false) (HX0.out.trans hwd) (Nat.le_refl _)
    have q0 := hc9 0
    have q1 := hc9 1
    have q2 := hc9 2
    have q3 := hc9 3
    have q4 := hc9 4
    have q5 := hc9 5
    simp only [List.getElem?_toArray, List.getElem?_cons_zero, List.getElem?_cons_succ] at q0 q1 q2 q3 q4 q5
    exact bodyPost_ret (v := nextV 0 false ⟨#[]⟩ 0 (.slice none 0 0) false) (by simp [results, Tryd.results40, go_sem, q0, q1, q2, q3, q4, q5, nextV]) rfl (by rw [HF2.out]; exact ⟨rfl, hx9⟩)
  · have hsl := fun wx => slice_i (g := g) (o := off) (L := n) (C := c) (i := f) (by omega) (by omega) wx
    have HP : Hid (BySl w (some ⟨g, off + f, none⟩) L b) := Lib.hid (by have := HR.out.bytes.part (i := f) (k := n - f) (by omega); rwa [Hb.out, List.take_of_length_le (by rw [Hbl.out]; omega), hL] at this)
    obtain ⟨o, ho⟩ : ∃ o, off + f = o := ⟨_, rfl⟩
    have hL1 : 0 < L := by omega
    rw [hL, hC, ho] at hsl
    rw [ho] at HP
    obtain ⟨k, tl, hkt⟩ : ∃ k tl, b = k :: tl := by
      cases b with
      | nil => have := Hbl.out; simp at this; omega
      | cons k tl => exact ⟨k, tl, rfl⟩
    have Hkt := Lib.hid hkt
    have HC0 : Hid (∀ wx, Ext w wx → wx.cell? ⟨g, o, none⟩ = some (.int .u8 (k.toNat : Int))) := Lib.hid (fun wx hx => by
      obtain ⟨b', o', e1, h2, h3⟩ := HP.out.2 hL1
      injection e1 with e1
      injection e1 with e1 e2
      subst e1 e2
      have := h3 0 k (by rw [Hkt.out]; rfl)
      rw [Nat.add_zero] at this
      exact (hx.cell h2).trans this)
    have hfl : f < n := by omega
    clear hL hC ho hkt hfn
    go_enter Tryd.func40, Tryd.ntmps40
    go_wp2_with fail
    rw [HW0.out]
    refine region_lin (fun wx => Ext w0 wx) 100000 [(0, 3), (1, 3), (2, 3), (3, 0), (4, 3), (5, 3), (6, 3), (7, 0), (8, 3), (9, 3)] ?_ (by kernel_rfl) (by kernel_rfl) ?_ (fun _ _ _ _ _ h => h) ((Ext.refl _).drew) ?_
    rotate_left
    (simp only [planOps, List.mapM_cons, List.mapM_nil, List.getElem?_toArray, List.getElem?_cons_zero, List.getElem?_cons_succ, Option.map_some, Option.bind_eq_bind, Option.bind_some, Option.pure_def]; rfl)
    intro wd hwd hxd
    repeat (first | (refine lin_take ?_ (by rfl) (fun wx hx => ?_) ?_; rotate_left; go_simp; (with_reducible rfl); try simp only [Act.put, List.setIfInBounds_toArray, List.set_cons_zero, List.set_cons_succ]) | (refine lin_skip (by rfl) ?_; try simp only [Act.put, List.setIfInBounds_toArray, List.set_cons_zero, List.set_cons_succ]) | (refine lin_take3 ?_ (by rfl) (fun wx hx => ?_) ?_; rotate_left; go_simp; (with_reducible rfl); try simp only [Act.put, List.setIfInBounds_toArray, List.set_cons_zero, List.set_cons_succ]) | (refine lin_skip3 (by rfl) ?_; try simp only [Act.put, List.setIfInBounds_toArray, List.set_cons_zero, List.set_cons_succ]))
    refine lin_nil ?_
    have c0 := HC0.out wd (HX0.out.trans hwd)
    have b0 : ((L : Int) == 0) = false := beq_eq_false_iff_ne.2 (by omega)
    have b0' : (L == 0) = false := beq_eq_false_iff_ne.2 (by omega)
    clear K0 K1
    by_cases hk : k = 255
    · have HF3 : Hid (frontEnd Z t S b = F) := Lib.hid (by rw [← HF.out, Hkt.out, front_cons, if_pos hk])
      subst hk
      go_wp2_with fail
      have hre := rend_any Z r _ n c B f t a torn whole wd (HR.out.ext (HX0.out.trans hwd)) hn hfl ht
      rw [HSS.out, Hb.out, HF3.out] at hre
      refine hre.mono ?_
      intro e w3 hp
      cases F with
      | item m y =>
        exfalso
        have := HF3.out
        unfold frontEnd at this
        repeat' split at this
        all_goals cases this
      | bad =>
        obtain ⟨rfl, hx3⟩ := hp
        have hwd3 := hwd.trans hx3
        unfold nextV
        clear hx3 hwd hxd
        have HZ := Lib.hid ((Mod.block hwd3 _ hs0 (fun f => f)).trans HZ0.out)
        have hz := fun i => cell_of_row _ _ i _ 70 (0, 0) HZ.out
        have hz0 := hz 0
        have hz1 := hz 1
        have hz2 := hz 2
        have hz3 := hz 3
        have hz4 := hz 4
        have hz5 := hz 5
        simp only [List.getElem?_toArray, List.getElem?_cons_zero, List.getElem?_cons_succ] at hz0 hz1 hz2 hz3 hz4 hz5
        have hzf : ∀ o, w3.frozen? ⟨w.heap.size, o, none⟩ = false := fun o => by simp [World.frozen?, HZ.out]
        have zf0 := hzf 0
        have zf1 := hzf 1
        have zf2 := hzf 2
        have zf3 := hzf 3
        have zf4 := hzf 4
        have zf5 := hzf 5
        clear hzf hz
        go_wp2_with fail
        obtain ⟨hx9, hc9⟩ := row6 HZ.out (.int .i64 0) (.bool false) (.string ⟨#[]⟩) (.int .i8 0) (.slice none 0 0) (.bool true) (HX0.out.trans hwd3) (Nat.le_refl _)
        have q0 := hc9 0
        have q1 := hc9 1
        have q2 := hc9 2
        have q3 := hc9 3
        have q4 := hc9 4
        have q5 := hc9 5
        simp only [List.getElem?_toArray, List.getElem?_cons_zero, List.getElem?_cons_succ] at q0 q1 q2 q3 q4 q5
        exact bodyPost_ret (v := nextV 0 false ⟨#[]⟩ 0 (.slice none 0 0) true) (by simp [results, Tryd.results40, go_sem, q0, q1, q2, q3, q4, q5, nextV]) rfl (by exact ⟨rfl, hx9⟩)
      | wait =>
        obtain ⟨rfl, hx3⟩ := hp
        have hwd3 := hwd.trans hx3
        unfold nextV
        clear hx3 hwd hxd
        have HZ := Lib.hid ((Mod.block hwd3 _ hs0 (fun f => f)).trans HZ0.out)
        have hz := fun i => cell_of_row _ _ i _ 70 (0, 0) HZ.out
        have hz0 := hz 0
        have hz1 := hz 1
        have hz2 := hz 2
        have hz3 := hz 3
        have hz4 := hz 4
        have hz5 := hz 5
        simp only [List.getElem?_toArray, List.getElem?_cons_zero, List.getElem?_cons_succ] at hz0 hz1 hz2 hz3 hz4 hz5
        have hzf : ∀ o, w3.frozen? ⟨w.heap.size, o, none⟩ = false := fun o => by simp [World.frozen?, HZ.out]
        have zf0 := hzf 0
        have zf1 := hzf 1
        have zf2 := hzf 2
        have zf3 := hzf 3
        have zf4 := hzf 4
        have zf5 := hzf 5
        clear hzf hz
        go_wp2_with fail
        obtain ⟨hx9, hc9⟩ := row6 HZ.out (.int .i64 0) (.bool false) (.string ⟨#[]⟩) (.int .i8 0) (.slice none 0 0) (.bool false) (HX0.out.trans hwd3) (Nat.le_refl _)
        have q0 := hc9 0
        have q1 := hc9 1
        have q2 := hc9 2
        have q3 := hc9 3
        have q4 := hc9 4
        have q5 := hc9 5
        simp only [List.getElem?_toArray, List.getElem?_cons_zero, List.getElem?_cons_succ] at q0 q1 q2 q3 q4 q5
        exact bodyPost_ret (v := nextV 0 false ⟨#[]⟩ 0 (.slice none 0 0) false) (by simp [results, Tryd.results40, go_sem, q0, q1, q2, q3, q4, q5, nextV]) rfl (by exact ⟨rfl, hx9⟩)
      | fin =>
        obtain ⟨rfl, hx3⟩ := hp
        have hwd3 := hwd.trans hx3
        unfold nextV
        clear hx3 hwd hxd
        have HZ := Lib.hid ((Mod.block hwd3 _ hs0 (fun f => f)).trans HZ0.out)
        have hz := fun i => cell_of_row _ _ i _ 70 (0, 0) HZ.out
        have hz0 := hz 0
        have hz1 := hz 1
        have hz2 := hz 2
        have hz3 := hz 3
        have hz4 := hz 4
        have hz5 := hz 5
        simp only [List.getElem?_toArray, List.getElem?_cons_zero, List.getElem?_cons_succ] at hz0 hz1 hz2 hz3 hz4 hz5
        have hzf : ∀ o, w3.frozen? ⟨w.heap.size, o, none⟩ = false := fun o => by simp [World.frozen?, HZ.out]
        have zf0 := hzf 0
        have zf1 := hzf 1
        have zf2 := hzf 2
        have zf3 := hzf 3
        have zf4 := hzf 4
        have zf5 := hzf 5
        clear hzf hz
        go_wp2_with fail
        obtain ⟨hx9, hc9⟩ := row6 HZ.out (.int .i64 13) (.bool false) (.string ⟨#[]⟩) (.int .i8 0) (.slice none 0 0) (.bool false) (HX0.out.trans hwd3) (Nat.le_refl _)
        have q0 := hc9 0
        have q1 := hc9 1
        have q2 := hc9 2
        have q3 := hc9 3
        have q4 := hc9 4
        have q5 := hc9 5
        simp only [List.getElem?_toArray, List.getElem?_cons_zero, List.getElem?_cons_succ] at q0 q1 q2 q3 q4 q5
        exact bodyPost_ret (v := nextV 13 false ⟨#[]⟩ 0 (.slice none 0 0) false) (by simp [results, Tryd.results40, go_sem, q0, q1, q2, q3, q4, q5, nextV]) rfl (by exact ⟨rfl, hx9⟩)
    · have HF3 : Hid (frontItem Z t a k b = F) := Lib.hid (by rw [← HF.out, Hkt.out, front_cons, if_neg hk])
      have bk : ((k.toNat : Int) == 255) = false := beq_eq_false_iff_ne.2 (fun e => hk (UInt8.toNat_inj.1 (by
        have h2 : k.toNat = 255 := by omega
        rw [h2]; rfl)))
      have hki := kint_wrap k
      obtain ⟨K, hK⟩ : ∃ K, kint k = K := ⟨_, rfl⟩
      rw [hK] at hki
      have HK := Lib.hid hK
      clear hk hK
      have HXd := Lib.hid hwd
      go_wp2_with fail
      refine (rkind_any K _).mono ?_
      rintro e w3 ⟨rfl, rfl⟩
      have k2 := HK2.out _ hwd
      have hkh := kindB_holds (k := K)
      by_cases hbad1 : kindB K = false ∨ 4096 ≤ t
      · have HF2 : Hid (F = .bad) := Lib.hid (by
          rw [← HF3.out]
          refine fi1 ?_
          rw [HK.out]
          rcases hbad1 with h | h
          · rw [hkh] at h; exact .inl (by have := of_decide_eq_false h; omega)
          · exact .inr h)
        rcases hbad1 with h | h
        · rw [h]
          clear hkh h
          have HZ := Lib.hid ((Mod.block hwd _ hs0 (fun f => f)).trans HZ0.out)
          have hz := fun i => cell_of_row _ _ i _ 70 (0, 0) HZ.out
          have hz0 := hz 0
          have hz1 := hz 1
          have hz2 := hz 2
          have hz3 := hz 3
          have hz4 := hz 4
          have hz5 := hz 5
          simp only [List.getElem?_toArray, List.getElem?_cons_zero, List.getElem?_cons_succ] at hz0 hz1 hz2 hz3 hz4 hz5
          have hzf : ∀ o, wd.frozen? ⟨w.heap.size, o, none⟩ = false := fun o => by simp [World.frozen?, HZ.out]
          have zf0 := hzf 0
          have zf1 := hzf 1
          have zf2 := hzf 2
          have zf3 := hzf 3
          have zf4 := hzf 4
          have zf5 := hzf 5
          clear hzf hz
          go_wp2_with fail
          obtain ⟨hx9, hc9⟩ := row6 HZ.out (.int .i64 0) (.bool false) (.string ⟨#[]⟩) (.int .i8 0) (.slice none 0 0) (.bool true) (HX0.out.trans hwd) (Nat.le_refl _)
          have q0 := hc9 0
          have q1 := hc9 1
          have q2 := hc9 2
          have q3 := hc9 3
          have q4 := hc9 4
          have q5 := hc9 5
          simp only [List.getElem?_toArray, List.getElem?_cons_zero, List.getElem?_cons_succ] at q0 q1 q2 q3 q4 q5
          exact bodyPost_ret (v := nextV 0 false ⟨#[]⟩ 0 (.slice none 0 0) true) (by simp [results, Tryd.results40, go_sem, q0, q1, q2, q3, q4, q5, nextV]) rfl (by rw [HF2.out]; exact ⟨rfl, hx9⟩)
        · have h' : (4096 : Int) ≤ (t : Int) := by omega
          clear hkh h
          cases kindB K
          · skip
            have HZ := Lib.hid ((Mod.block hwd _ hs0 (fun f => f)).trans HZ0.out)
            have hz := fun i => cell_of_row _ _ i _ 70 (0, 0) HZ.out
            have hz0 := hz 0
            have hz1 := hz 1
            have hz2 := hz 2
            have hz3 := hz 3
            have hz4 := hz 4
            have hz5 := hz 5
            simp only [List.getElem?_toArray, List.getElem?_cons_zero, List.getElem?_cons_succ] at hz0 hz1 hz2 hz3 hz4 hz5
            have hzf : ∀ o, wd.frozen? ⟨w.heap.size, o, none⟩ = false := fun o => by simp [World.frozen?, HZ.out]
            have zf0 := hzf 0
            have zf1 := hzf 1
            have zf2 := hzf 2
            have zf3 := hzf 3
            have zf4 := hzf 4
            have zf5 := hzf 5
            clear hzf hz
            go_wp2_with fail
            obtain ⟨hx9, hc9⟩ := row6 HZ.out (.int .i64 0) (.bool false) (.string ⟨#[]⟩) (.int .i8 0) (.slice none 0 0) (.bool true) (HX0.out.trans hwd) (Nat.le_refl _)
            have q0 := hc9 0
            have q1 := hc9 1
            have q2 := hc9 2
            have q3 := hc9 3
            have q4 := hc9 4
            have q5 := hc9 5
            simp only [List.getElem?_toArray, List.getElem?_cons_zero, List.getElem?_cons_succ] at q0 q1 q2 q3 q4 q5
            exact bodyPost_ret (v := nextV 0 false ⟨#[]⟩ 0 (.slice none 0 0) true) (by simp [results, Tryd.results40, go_sem, q0, q1, q2, q3, q4, q5, nextV]) rfl (by rw [HF2.out]; exact ⟨rfl, hx9⟩)
          · skip
            have HZ := Lib.hid ((Mod.block hwd _ hs0 (fun f => f)).trans HZ0.out)
            have hz := fun i => cell_of_row _ _ i _ 70 (0, 0) HZ.out
            have hz0 := hz 0
            have hz1 := hz 1
            have hz2 := hz 2
            have hz3 := hz 3
            have hz4 := hz 4
            have hz5 := hz 5
            simp only [List.getElem?_toArray, List.getElem?_cons_zero, List.getElem?_cons_succ] at hz0 hz1 hz2 hz3 hz4 hz5
            have hzf : ∀ o, wd.frozen? ⟨w.heap.size, o, none⟩ = false := fun o => by simp [World.frozen?, HZ.out]
            have zf0 := hzf 0
            have zf1 := hzf 1
            have zf2 := hzf 2
            have zf3 := hzf 3
            have zf4 := hzf 4
            have zf5 := hzf 5
            clear hzf hz
            go_wp2_with fail
            obtain ⟨hx9, hc9⟩ := row6 HZ.out (.int .i64 0) (.bool false) (.string ⟨#[]⟩) (.int .i8 0) (.slice none 0 0) (.bool true) (HX0.out.trans hwd) (Nat.le_refl _)
            have q0 := hc9 0
            have q1 := hc9 1
            have q2 := hc9 2
            have q3 := hc9 3
            have q4 := hc9 4
            have q5 := hc9 5
            simp only [List.getElem?_toArray, List.getElem?_cons_zero, List.getElem?_cons_succ] at q0 q1 q2 q3 q4 q5
            exact bodyPost_ret (v := nextV 0 false ⟨#[]⟩ 0 (.slice none 0 0) true) (by simp [results, Tryd.results40, go_sem, q0, q1, q2, q3, q4, q5, nextV]) rfl (by rw [HF2.out]; exact ⟨rfl, hx9⟩)
      · have hkb : kindB K = true := by
          cases h : kindB K with
          | true => rfl
          | false => exact absurd (.inl h) hbad1
        have ht4 : ¬ ((4096 : Int) ≤ (t : Int)) := fun h => hbad1 (.inr (by omega))
        have H1 : Hid (¬ (holdsN (kint k) < 0 ∨ 4096 ≤ t)) := Lib.hid (by
          rintro (h | h)
          · rw [HK.out] at h; rw [hkh] at hkb; have := of_decide_eq_true hkb; omega
          · exact hbad1 (.inr h))
        have Hkb := Lib.hid hkb
        rw [hkb]
        clear hbad1 hkh hkb
        by_cases h5 : L < 5
        · have HF2 : Hid (F = .wait) := Lib.hid (by rw [← HF3.out]; exact fi2 H1.out (by have := Hbl.out; omega))
          have HZ := Lib.hid ((Mod.block hwd _ hs0 (fun f => f)).trans HZ0.out)
          have hz := fun i => cell_of_row _ _ i _ 70 (0, 0) HZ.out
          have hz0 := hz 0
          have hz1 := hz 1
          have hz2 := hz 2
          have hz3 := hz 3
          have hz4 := hz 4
          have hz5 := hz 5
          simp only [List.getElem?_toArray, List.getElem?_cons_zero, List.getElem?_cons_succ] at hz0 hz1 hz2 hz3 hz4 hz5
          have hzf : ∀ o, wd.frozen? ⟨w.heap.size, o, none⟩ = false := fun o => by simp [World.frozen?, HZ.out]
          have zf0 := hzf 0
          have zf1 := hzf 1
          have zf2 := hzf 2
          have zf3 := hzf 3
          have zf4 := hzf 4
          have zf5 := hzf 5
          clear hzf hz
          go_wp2_with fail
          obtain ⟨hx9, hc9⟩ := row6 HZ.out (.int .i64 0) (.bool false) (.string ⟨#[]⟩) (.int .i8 0) (.slice none 0 0) (.bool false) (HX0.out.trans hwd) (Nat.le_refl _)
          have q0 := hc9 0
          have q1 := hc9 1
          have q2 := hc9 2
          have q3 := hc9 3
          have q4 := hc9 4
          have q5 := hc9 5
          simp only [List.getElem?_toArray, List.getElem?_cons_zero, List.getElem?_cons_succ] at q0 q1 q2 q3 q4 q5
          exact bodyPost_ret (v := nextV 0 false ⟨#[]⟩ 0 (.slice none 0 0) false) (by simp [results, Tryd.results40, go_sem, q0, q1, q2, q3, q4, q5, nextV]) rfl (by rw [HF2.out]; exact ⟨rfl, hx9⟩)
        · have H2 : Hid (¬ b.length < 5) := Lib.hid (by have := Hbl.out; omega)
          have s13 : ∀ wx, (Instr.slice 26 (.slice (some ⟨g, o, none⟩) L C) (some (.int .i64 1)) (some (.int .i64 3)) none).run Tryd.prog wx = .ok (.slice (some ⟨g, o + 1, none⟩) 2 (C - 1)) wx := fun wx => slice_ij (i := 1) (j := 3) (by omega) (by omega) (by omega) wx
          have s35 : ∀ wx, (Instr.slice 26 (.slice (some ⟨g, o, none⟩) L C) (some (.int .i64 3)) (some (.int .i64 5)) none).run Tryd.prog wx = .ok (.slice (some ⟨g, o + 3, none⟩) 2 (C - 3)) wx := fun wx => slice_ij (i := 3) (j := 5) (by omega) (by omega) (by omega) wx
          have HP1 : Hid (BySl w (some ⟨g, o + 1, none⟩) 2 ((b.drop 1).take 2)) := Lib.hid (HP.out.part (by omega))
          have HP3 : Hid (BySl w (some ⟨g, o + 3, none⟩) 2 ((b.drop 3).take 2)) := Lib.hid (HP.out.part (by omega))
          have hlt2 : ∀ l : Bs, numL (l.take 2) ≤ 65535 := fun l => by
            have h1 := numL_lt (l.take 2)
            have h2 : 256 ^ (l.take 2).length ≤ 256 ^ 2 := Nat.pow_le_pow_right (by decide) (by simp; omega)
            omega
          have b1 := hlt2 (b.drop 1)
          have b2 := hlt2 (b.drop 3)
          obtain ⟨N, hN⟩ : ∃ z, numL ((b.drop 1).take 2) = z := ⟨_, rfl⟩
          obtain ⟨N', hN'⟩ : ∃ z, numL ((b.drop 3).take 2) = z := ⟨_, rfl⟩
          rw [hN] at b1
          rw [hN'] at b2
          have HN := Lib.hid hN
          have HN' := Lib.hid hN'
          have e1 : IntKind.i64.wrap (N : Int) = (N : Int) := IntWalk.i64_in _ (by omega)
          have e2 : IntKind.i64.wrap (N' : Int) = (N' : Int) := IntWalk.i64_in _ (by omega)
          have e3 : IntKind.i64.wrap ((N : Int) + (N' : Int)) = (N : Int) + (N' : Int) := IntWalk.i64_in _ (by omega)
          clear hlt2 hN hN'
          go_wp2_with fail
          refine (rnumber_any (some ⟨g, o + 1, none⟩) 2 _ _ wd (HP1.out.ext (HX0.out.trans hwd)) (by decide)).mono ?_
          rintro e w7 ⟨rfl, rfl⟩
          rw [HN.out]
          go_wp2_with fail
          refine (rnumber_any (some ⟨g, o + 3, none⟩) 2 _ _ wd (HP3.out.ext (HX0.out.trans hwd)) (by decide)).mono ?_
          rintro e w7 ⟨rfl, rfl⟩
          rw [HN'.out]
          by_cases hbd : N + N' = 65535 ∧ 1 ≤ N ∧ N ≤ 4096
          · obtain ⟨g1, g2, g3⟩ := hbd
            have H3 : Hid (N + numL ((b.drop 3).take 2) = 65535 ∧ 1 ≤ N ∧ N ≤ 4096) := Lib.hid ⟨by rw [HN'.out]; exact g1, g2, g3⟩
            have e4 : (((N : Int) + (N' : Int)) == 65535) = true := by rw [beq_iff_eq]; omega
            have e5 : ¬ ((N : Int) < 1) := by omega
            have e6 : ¬ ((4096 : Int) < (N : Int)) := by omega
            clear s13 s35
            obtain ⟨M5, hM5⟩ : ∃ m, 5 + N = m := ⟨_, rfl⟩
            have a5 : (5 : Int) + (N : Int) = (M5 : Int) := by omega
            have a5' : IntKind.i64.wrap (M5 : Int) = (M5 : Int) := IntWalk.i64_in _ (by omega)
            have HM5 := Lib.hid hM5
            by_cases h8 : L < M5
            · have HF2 : Hid (F = .wait) := Lib.hid (by rw [← HF3.out]; exact fi4 H1.out H2.out HN.out H3.out (by have := Hbl.out; omega))
              have HZ := Lib.hid ((Mod.block hwd _ hs0 (fun f => f)).trans HZ0.out)
              have hz := fun i => cell_of_row _ _ i _ 70 (0, 0) HZ.out
              have hz0 := hz 0
              have hz1 := hz 1
              have hz2 := hz 2
              have hz3 := hz 3
              have hz4 := hz 4
              have hz5 := hz 5
              simp only [List.getElem?_toArray, List.getElem?_cons_zero, List.getElem?_cons_succ] at hz0 hz1 hz2 hz3 hz4 hz5
              have hzf : ∀ o, wd.frozen? ⟨w.heap.size, o, none⟩ = false := fun o => by simp [World.frozen?, HZ.out]
              have zf0 := hzf 0
              have zf1 := hzf 1
              have zf2 := hzf 2
              have zf3 := hzf 3
              have zf4 := hzf 4
              have zf5 := hzf 5
              clear hzf hz
              go_wp2_with fail
              obtain ⟨hx9, hc9⟩ := row6 HZ.out (.int .i64 0) (.bool false) (.string ⟨#[]⟩) (.int .i8 0) (.slice none 0 0) (.bool false) (HX0.out.trans hwd) (Nat.le_refl _)
              have q0 := hc9 0
              have q1 := hc9 1
              have q2 := hc9 2
              have q3 := hc9 3
              have q4 := hc9 4
              have q5 := hc9 5
              simp only [List.getElem?_toArray, List.getElem?_cons_zero, List.getElem?_cons_succ] at q0 q1 q2 q3 q4 q5
              exact bodyPost_ret (v := nextV 0 false ⟨#[]⟩ 0 (.slice none 0 0) false) (by simp [results, Tryd.results40, go_sem, q0, q1, q2, q3, q4, q5, nextV]) rfl (by rw [HF2.out]; exact ⟨rfl, hx9⟩)
            · have H4 : Hid (¬ b.length < 5 + N) := Lib.hid (by have := Hbl.out; omega)
              have s5 := fun wx => slice_ij (g := g) (o := o) (L := L) (C := C) (i := 5) (j := M5) (by omega) (by omega) (by omega) wx
              have hm5 : M5 - 5 = N := by omega
              rw [hm5] at s5
              have s5' : ∀ wx, (Instr.slice 26 (.slice (some ⟨g, o, none⟩) L C) (some (.int .i64 5)) (some (.int .i64 (M5 : Int))) none).run Tryd.prog wx = .ok (.slice (some ⟨g, o + 5, none⟩) N (C - 5)) wx := s5
              have HP5 : Hid (BySl w (some ⟨g, o + 5, none⟩) N ((b.drop 5).take N)) := Lib.hid (HP.out.part (by omega))
              obtain ⟨P, hP⟩ : ∃ P, (b.drop 5).take N = P := ⟨_, rfl⟩
              rw [hP] at HP5
              have HPP := Lib.hid hP
              have hPl : P.length ≤ 4096 := by rw [← hP]; simp; omega
              have cv := run_bytes_string (HP5.out.ext (HX0.out.trans hwd)) (C - 5)
              clear s5 hP hm5
              go_wp2_with fail
              refine (rclean_ok P _ (by omega)).mono ?_
              rintro e w4 ⟨rfl, hx4⟩
              have hwd4 := hwd.trans hx4
              have k2 := HK2.out _ hwd4
              have k3 := HK3.out _ hwd4
              have hoa := okP_two P a
              by_cases hgd : okP P a = true
              · have H5 : Hid (Z.ok ((b.drop 5).take N) a = true) := Lib.hid (by rw [hZ, HPP.out]; exact hgd)
                have hoc : okC P = true := by rw [hoa] at hgd; exact (Bool.and_eq_true_iff.1 hgd).1
                have hbh : behind P a = true := by rw [hoa] at hgd; exact (Bool.and_eq_true_iff.1 hgd).2
                obtain ⟨le, hle⟩ : ∃ le, (Op.bytesLess (mkB P).toList (mkB a).toList || (mkB P).toList == (mkB a).toList) = le := ⟨_, rfl⟩
                have hlf : le = false := by
                  rw [← hle, mkB_list, mkB_list]; unfold behind at hbh
                  cases h1 : Op.bytesLess P a <;> cases h2 : P == a <;> simp [h1, h2] at hbh ⊢
                subst hlf
                rw [hoc]
                clear hgd hoa hoc hbh s5' cv hwd hxd hx4
                obtain ⟨M13, hM13⟩ : ∃ m, 13 + N = m := ⟨_, rfl⟩
                have a13 : (13 : Int) + (N : Int) = (M13 : Int) := by omega
                have a13' : IntKind.i64.wrap (M13 : Int) = (M13 : Int) := IntWalk.i64_in _ (by omega)
                have HM13 := Lib.hid hM13
                by_cases ht0 : 0 < t
                · have kt : (0 : Int) < (t : Int) := by omega
                  by_cases h9 : L < M13
                  · have HF2 : Hid (F = .wait) := Lib.hid (by rw [← HF3.out]; exact fi6 H1.out H2.out HN.out H3.out H4.out H5.out (by have := Hbl.out; omega))
                    have HZ := Lib.hid ((Mod.block hwd4 _ hs0 (fun f => f)).trans HZ0.out)
                    have hz := fun i => cell_of_row _ _ i _ 70 (0, 0) HZ.out
                    have hz0 := hz 0
                    have hz1 := hz 1
                    have hz2 := hz 2
                    have hz3 := hz 3
                    have hz4 := hz 4
                    have hz5 := hz 5
                    simp only [List.getElem?_toArray, List.getElem?_cons_zero, List.getElem?_cons_succ] at hz0 hz1 hz2 hz3 hz4 hz5
                    have hzf : ∀ o, w4.frozen? ⟨w.heap.size, o, none⟩ = false := fun o => by simp [World.frozen?, HZ.out]
                    have zf0 := hzf 0
                    have zf1 := hzf 1
                    have zf2 := hzf 2
                    have zf3 := hzf 3
                    have zf4 := hzf 4
                    have zf5 := hzf 5
                    clear hzf hz
                    (go_wp2_with fail) <;> (try (exfalso; omega))
                    obtain ⟨hx9, hc9⟩ := row6 HZ.out (.int .i64 0) (.bool false) (.string ⟨#[]⟩) (.int .i8 0) (.slice none 0 0) (.bool false) (HX0.out.trans hwd4) (Nat.le_refl _)
                    have q0 := hc9 0
                    have q1 := hc9 1
                    have q2 := hc9 2
                    have q3 := hc9 3
                    have q4 := hc9 4
                    have q5 := hc9 5
                    simp only [List.getElem?_toArray, List.getElem?_cons_zero, List.getElem?_cons_succ] at q0 q1 q2 q3 q4 q5
                    exact bodyPost_ret (v := nextV 0 false ⟨#[]⟩ 0 (.slice none 0 0) false) (by simp [results, Tryd.results40, go_sem, q0, q1, q2, q3, q4, q5, nextV]) rfl (by rw [HF2.out]; exact ⟨rfl, hx9⟩)
                  · have H6 : Hid (¬ b.length < 13 + N) := Lib.hid (by have := Hbl.out; omega)
                    obtain ⟨M9, hM9⟩ : ∃ m, 9 + N = m := ⟨_, rfl⟩
                    have a9 : (9 : Int) + (N : Int) = (M9 : Int) := by omega
                    have a9' : IntKind.i64.wrap (M9 : Int) = (M9 : Int) := IntWalk.i64_in _ (by omega)
                    have s59 := fun wx => slice_ij (g := g) (o := o) (L := L) (C := C) (i := M5) (j := M9) (by omega) (by omega) (by omega) wx
                    have s913 := fun wx => slice_ij (g := g) (o := o) (L := L) (C := C) (i := M9) (j := M13) (by omega) (by omega) (by omega) wx
                    rw [show M9 - M5 = 4 from by omega] at s59
                    rw [show M13 - M9 = 4 from by omega] at s913
                    have HPm : Hid (BySl w (some ⟨g, o + M5, none⟩) 4 ((b.drop (5 + N)).take 4)) := Lib.hid (by have := HP.out.part (i := M5) (k := 4) (by omega); rwa [← HM5.out] at this ⊢)
                    have HPm' : Hid (BySl w (some ⟨g, o + M9, none⟩) 4 ((b.drop (9 + N)).take 4)) := Lib.hid (by have := HP.out.part (i := M9) (k := 4) (by omega); rwa [← hM9] at this ⊢)
                    have hlt4 : ∀ l : Bs, numL (l.take 4) ≤ 4294967295 := fun l => by
                      have h1 := numL_lt (l.take 4)
                      have h2 : 256 ^ (l.take 4).length ≤ 256 ^ 4 := Nat.pow_le_pow_right (by decide) (by simp; omega)
                      omega
                    have m1 := hlt4 (b.drop (5 + N))
                    have m2 := hlt4 (b.drop (9 + N))
                    obtain ⟨M, hM⟩ : ∃ z, numL ((b.drop (5 + N)).take 4) = z := ⟨_, rfl⟩
                    obtain ⟨M', hM'⟩ : ∃ z, numL ((b.drop (9 + N)).take 4) = z := ⟨_, rfl⟩
                    rw [hM] at m1
                    rw [hM'] at m2
                    have HMm := Lib.hid hM
                    have HMm' := Lib.hid hM'
                    have m3 : IntKind.i64.wrap (M : Int) = (M : Int) := IntWalk.i64_in _ (by omega)
                    have m4 : IntKind.i64.wrap (M' : Int) = (M' : Int) := IntWalk.i64_in _ (by omega)
                    have m5 : IntKind.i64.wrap ((M : Int) + (M' : Int)) = (M : Int) + (M' : Int) := IntWalk.i64_in _ (by omega)
                    have hHl := holds_le (M := M) Hkb.out
                    clear hlt4 hM hM' m1 m2
                    go_wp2_with fail
                    refine (rnumber_any (some ⟨g, o + M5, none⟩) 4 _ _ w4 (HPm.out.ext (HX0.out.trans hwd4)) (by decide)).mono ?_
                    rintro e w7 ⟨rfl, rfl⟩
                    rw [HMm.out]
                    go_wp2_with fail
                    refine (rempty_any K _).mono ?_
                    rintro e w7 ⟨rfl, rfl⟩
                    obtain ⟨dr, hdr⟩ : ∃ d, dryB K = d := ⟨_, rfl⟩
                    rw [hdr] at hHl ⊢
                    go_wp2_with fail
                    refine (rnumber_any (some ⟨g, o + M9, none⟩) 4 _ _ w4 (HPm'.out.ext (HX0.out.trans hwd4)) (by decide)).mono ?_
                    rintro e w7 ⟨rfl, rfl⟩
                    rw [HMm'.out]
                    clear s59 s913
                    by_cases u1 : M + M' = 4294967295
                    · have v1 : (((M : Int) + (M' : Int)) == 4294967295) = true := by rw [beq_iff_eq]; omega
                      by_cases u2 : M ≤ 4194304
                      · have v2 : decide ((4194304 : Int) < (M : Int)) = false := decide_eq_false (by omega)
                        by_cases u3 : dr = true ∧ 0 < M
                        · have HF2 : Hid (F = .bad) := Lib.hid (by rw [← HF3.out]; exact fi7 H1.out H2.out HN.out H3.out H4.out H5.out H6.out HMm.out (fun h => (hHl.1 (by have := h.2; rwa [HK.out] at this)).2 u3))
                          obtain ⟨rfl, u4⟩ := u3
                          have v3 : decide (0 < M) = true := decide_eq_true u4
                          clear hHl
                          have HZ := Lib.hid ((Mod.block hwd4 _ hs0 (fun f => f)).trans HZ0.out)
                          have hz := fun i => cell_of_row _ _ i _ 70 (0, 0) HZ.out
                          have hz0 := hz 0
                          have hz1 := hz 1
                          have hz2 := hz 2
                          have hz3 := hz 3
                          have hz4 := hz 4
                          have hz5 := hz 5
                          simp only [List.getElem?_toArray, List.getElem?_cons_zero, List.getElem?_cons_succ] at hz0 hz1 hz2 hz3 hz4 hz5
                          have hzf : ∀ o, w4.frozen? ⟨w.heap.size, o, none⟩ = false := fun o => by simp [World.frozen?, HZ.out]
                          have zf0 := hzf 0
                          have zf1 := hzf 1
                          have zf2 := hzf 2
                          have zf3 := hzf 3
                          have zf4 := hzf 4
                          have zf5 := hzf 5
                          clear hzf hz
                          (go_wp2_with fail) <;> (try (exfalso; omega))
                          obtain ⟨hx9, hc9⟩ := row6 HZ.out (.int .i64 0) (.bool false) (.string ⟨#[]⟩) (.int .i8 0) (.slice none 0 0) (.bool true) (HX0.out.trans hwd4) (Nat.le_refl _)
                          have q0 := hc9 0
                          have q1 := hc9 1
                          have q2 := hc9 2
                          have q3 := hc9 3
                          have q4 := hc9 4
                          have q5 := hc9 5
                          simp only [List.getElem?_toArray, List.getElem?_cons_zero, List.getElem?_cons_succ] at q0 q1 q2 q3 q4 q5
                          exact bodyPost_ret (v := nextV 0 false ⟨#[]⟩ 0 (.slice none 0 0) true) (by simp [results, Tryd.results40, go_sem, q0, q1, q2, q3, q4, q5, nextV]) rfl (by rw [HF2.out]; exact ⟨rfl, hx9⟩)
                        · have H7 : Hid (M + numL ((b.drop (9 + N)).take 4) = 4294967295 ∧ (M : Int) ≤ holdsN (kint k)) := Lib.hid ⟨by rw [HMm'.out]; exact u1, by rw [HK.out]; exact hHl.2 ⟨u2, u3⟩⟩
                          have v3 : dr = false ∨ (dr = true ∧ decide (0 < M) = false) := by
                            cases dr with
                            | false => exact .inl rfl
                            | true => exact .inr ⟨rfl, decide_eq_false (fun h => u3 ⟨rfl, h⟩)⟩
                          clear hHl u3 hdr
                          rcases v3 with rfl | ⟨rfl, v4⟩
                          · skip
                            obtain ⟨M21, hM21⟩ : ∃ m, 21 + N = m := ⟨_, rfl⟩
                            have a21 : (21 : Int) + (N : Int) = (M21 : Int) := by omega
                            have a21' : IntKind.i64.wrap (M21 : Int) = (M21 : Int) := IntWalk.i64_in _ (by omega)
                            obtain ⟨We, hWe⟩ : ∃ m, M21 + M = m := ⟨_, rfl⟩
                            have aWe : (M21 : Int) + (M : Int) = (We : Int) := by omega
                            have aWe' : IntKind.i64.wrap (We : Int) = (We : Int) := IntWalk.i64_in _ (by omega)
                            obtain ⟨Wh, hWh⟩ : ∃ m, M13 + M = m := ⟨_, rfl⟩
                            have aWh : (M13 : Int) + (M : Int) = (Wh : Int) := by omega
                            have aWh' : IntKind.i64.wrap (Wh : Int) = (Wh : Int) := IntWalk.i64_in _ (by omega)
                            have HWe : Hid (21 + N + M = We) := Lib.hid (by omega)
                            have HWh : Hid (13 + N + M = Wh) := Lib.hid (by omega)
                            by_cases h10 : L < We
                            · have HF2 : Hid (F = .wait) := Lib.hid (by rw [← HF3.out]; exact fi8 H1.out H2.out HN.out H3.out H4.out H5.out H6.out HMm.out H7.out (by have := Hbl.out; omega))
                              have HZ := Lib.hid ((Mod.block hwd4 _ hs0 (fun f => f)).trans HZ0.out)
                              have hz := fun i => cell_of_row _ _ i _ 70 (0, 0) HZ.out
                              have hz0 := hz 0
                              have hz1 := hz 1
                              have hz2 := hz 2
                              have hz3 := hz 3
                              have hz4 := hz 4
                              have hz5 := hz 5
                              simp only [List.getElem?_toArray, List.getElem?_cons_zero, List.getElem?_cons_succ] at hz0 hz1 hz2 hz3 hz4 hz5
                              have hzf : ∀ o, w4.frozen? ⟨w.heap.size, o, none⟩ = false := fun o => by simp [World.frozen?, HZ.out]
                              have zf0 := hzf 0
                              have zf1 := hzf 1
                              have zf2 := hzf 2
                              have zf3 := hzf 3
                              have zf4 := hzf 4
                              have zf5 := hzf 5
                              clear hzf hz
                              (go_wp2_with fail) <;> (try (exfalso; omega))
                              obtain ⟨hx9, hc9⟩ := row6 HZ.out (.int .i64 0) (.bool false) (.string ⟨#[]⟩) (.int .i8 0) (.slice none 0 0) (.bool false) (HX0.out.trans hwd4) (Nat.le_refl _)
                              have q0 := hc9 0
                              have q1 := hc9 1
                              have q2 := hc9 2
                              have q3 := hc9 3
                              have q4 := hc9 4
                              have q5 := hc9 5
                              simp only [List.getElem?_toArray, List.getElem?_cons_zero, List.getElem?_cons_succ] at q0 q1 q2 q3 q4 q5
                              exact bodyPost_ret (v := nextV 0 false ⟨#[]⟩ 0 (.slice none 0 0) false) (by simp [results, Tryd.results40, go_sem, q0, q1, q2, q3, q4, q5, nextV]) rfl (by rw [HF2.out]; exact ⟨rfl, hx9⟩)
                            · have H8 : Hid (¬ b.length < 21 + N + M) := Lib.hid (by have := Hbl.out; omega)
                              have sA := fun wx => slice_ij (g := g) (o := o) (L := L) (C := C) (i := Wh) (j := We) (by omega) (by omega) (by omega) wx
                              have sB := fun wx => slice_j (A := some ⟨g, o, none⟩) (L := L) (C := C) (j := Wh) (by omega) wx
                              have sC := fun wx => slice_ij (g := g) (o := o) (L := L) (C := C) (i := M13) (j := Wh) (by omega) (by omega) (by omega) wx
                              rw [show We - Wh = 8 from by omega] at sA
                              rw [show Wh - M13 = M from by omega] at sC
                              have HP8 : Hid (BySl w4 (some ⟨g, o + Wh, none⟩) 8 ((b.drop Wh).take 8)) := Lib.hid ((HP.out.part (i := Wh) (k := 8) (by omega)).ext (HX0.out.trans hwd4))
                              have HPs : Hid (BySl w4 (some ⟨g, o, none⟩) Wh (b.take Wh)) := Lib.hid (by have := (HP.out.part (i := 0) (k := Wh) (by omega)).ext (HX0.out.trans hwd4); rwa [Nat.add_zero, List.drop_zero] at this)
                              have HPD : Hid (BySl w4 (some ⟨g, o + M13, none⟩) M ((b.drop M13).take M)) := Lib.hid ((HP.out.part (i := M13) (k := M) (by omega)).ext (HX0.out.trans hwd4))
                              obtain ⟨D, hD⟩ : ∃ D, (b.drop M13).take M = D := ⟨_, rfl⟩
                              have hDl : D.length = M := by rw [← hD]; simp; have := Hbl.out; omega
                              rw [hD] at HPD
                              have HD : Hid ((b.drop (13 + N)).take M = D) := Lib.hid (by rw [hM13]; exact hD)
                              obtain ⟨nu, hnu⟩ : ∃ z, numL ((b.drop Wh).take 8) = z := ⟨_, rfl⟩
                              obtain ⟨su, hsu⟩ : ∃ z, sumB Z (b.take Wh) = z := ⟨_, rfl⟩
                              have Hnu := Lib.hid hnu
                              have Hsu := Lib.hid hsu
                              have HDl := Lib.hid hDl
                              have HX4 := Lib.hid hwd4
                              have hWl : Wh ≤ 1073741824 := by omega
                              have hMl : M ≤ 1073741824 := by omega
                              clear hD hnu hsu hDl hwd4
                              (go_wp2_with fail) <;> (try (exfalso; omega))
                              refine region_lin (fun wx => Ext w4 wx) 100000 [(0, 3), (1, 3), (2, 3), (3, 3), (4, 3), (5, 3), (6, 3), (7, 3), (8, 3), (9, 3), (11, 3), (12, 3), (13, 3), (14, 3), (15, 3), (16, 3), (10, 1), (17, 1), (18, 3)] ?_ (by kernel_rfl) (by kernel_rfl) ?_ (fun _ _ _ _ _ h => h) ((Ext.refl _).drew) ?_
                              rotate_left
                              (simp only [planOps, List.mapM_cons, List.mapM_nil, List.getElem?_toArray, List.getElem?_cons_zero, List.getElem?_cons_succ, Option.map_some, Option.bind_eq_bind, Option.bind_some, Option.pure_def]; rfl)
                              intro wd hwd hxd
                              repeat (first | (refine lin_take ?_ (by rfl) (fun wx hx => ?_) ?_; rotate_left; go_simp; (with_reducible rfl); try simp only [Act.put, List.setIfInBounds_toArray, List.set_cons_zero, List.set_cons_succ]) | (refine lin_skip (by rfl) ?_; try simp only [Act.put, List.setIfInBounds_toArray, List.set_cons_zero, List.set_cons_succ]) | (refine lin_take3 ?_ (by rfl) (fun wx hx => ?_) ?_; rotate_left; go_simp; (with_reducible rfl); try simp only [Act.put, List.setIfInBounds_toArray, List.set_cons_zero, List.set_cons_succ]) | (refine lin_skip3 (by rfl) ?_; try simp only [Act.put, List.setIfInBounds_toArray, List.set_cons_zero, List.set_cons_succ]))
                              refine lin_run (by rfl) (fun KC hK => ?_)
                              go_simp
                              refine (rnumber_any (some ⟨g, o + Wh, none⟩) 8 _ _ wd (HP8.out.ext hwd) (by decide)).mono ?_
                              rintro e w7 ⟨rfl, rfl⟩
                              rw [Hnu.out]
                              refine hK _ _ hwd ?_
                              clear hK
                              try simp only [Act.put, List.setIfInBounds_toArray, List.set_cons_zero, List.set_cons_succ]
                              refine lin_run (by rfl) (fun KC hK => ?_)
                              go_simp
                              refine (rsum_any Z (some ⟨g, o, none⟩) Wh _ _ wd (HPs.out.ext hwd) (by omega)).mono ?_
                              rintro e w7 ⟨rfl, rfl⟩
                              rw [Hsu.out]
                              refine hK _ _ hwd ?_
                              clear hK
                              try simp only [Act.put, List.setIfInBounds_toArray, List.set_cons_zero, List.set_cons_succ]
                              have hwd5 := HX4.out.trans hwd
                              by_cases hns : nu = su
                              · have b2 : ((nu : Int) == (su : Int)) = true := by rw [hns]; simp
                                have HF2 : Hid (F = .item We ⟨P, K, D⟩) := Lib.hid (by rw [← HF3.out, fi10 H1.out H2.out HN.out H3.out H4.out H5.out H6.out HMm.out H7.out H8.out (by rw [HWh.out, Hnu.out, Hsu.out]; exact hns), HPP.out, HK.out, HD.out, HWe.out])
                                clear hns
                                repeat (first | (refine lin_take ?_ (by rfl) (fun wx hx => ?_) ?_; rotate_left; go_simp; (with_reducible rfl); try simp only [Act.put, List.setIfInBounds_toArray, List.set_cons_zero, List.set_cons_succ]) | (refine lin_skip (by rfl) ?_; try simp only [Act.put, List.setIfInBounds_toArray, List.set_cons_zero, List.set_cons_succ]) | (refine lin_take3 ?_ (by rfl) (fun wx hx => ?_) ?_; rotate_left; go_simp; (with_reducible rfl); try simp only [Act.put, List.setIfInBounds_toArray, List.set_cons_zero, List.set_cons_succ]) | (refine lin_skip3 (by rfl) ?_; try simp only [Act.put, List.setIfInBounds_toArray, List.set_cons_zero, List.set_cons_succ]))
                                refine lin_nil ?_
                                have HPD5 := Lib.hid (HPD.out.ext hwd)
                                have Hwd5 := Lib.hid hwd5
                                clear sA sB hwd hwd5 hxd
                                have HOe : Hid (Own (wd.alloc (.cells #[] 5)) 5 1 (.slice (some ⟨wd.heap.size, 0, none⟩) 0 0) 0 []) := Lib.hid ⟨rfl, .inr ⟨wd.heap.size, 0, 0, #[], rfl, heap_alloc_new wd _, Nat.le_refl _, by unfold maxLen; omega, by simp, rfl⟩⟩
                                have hxe : Ext wd (wd.alloc (.cells #[] 5)) := (Ext.refl _).alloc _
                                have HPDx := Lib.hid (HPD5.out.ext hxe)
                                have HXe := Lib.hid hxe
                                have hsd : w0.heap.size ≤ wd.heap.size := Hwd5.out.size
                                obtain ⟨i5, hi5, hz5, hsz5, hby5⟩ := info_parts Tryd.info5
                                clear hxe HPD5
                                go_wp2_with (at_builtin; refine wpList_append_own_any _ rfl (.tmp 173) (.tmp 181) 26 rfl 5 i5 _ 1 1 Tryd.underlying26 hi5 hz5 hsz5 hby5 rfl (by decide) (.slice (some ⟨wd.heap.size, 0, none⟩) 0 0) 0 [] rfl HOe.out (some ⟨g, o + M13, none⟩) M (C - M13) (u8v D) rfl (by rw [u8v_len, HDl.out, Nat.mul_one]) HPDx.out.news (u8v_one D) (by unfold maxLen; omega) (by omega) ?_)
                                intro v' w8 ho hgr hv'
                                have hm8 : Mod (fun k => some wd.heap.size = some k) (wd.alloc (.cells #[] 5)) w8 := (Mod.refl _ _).grown hgr (fun k e _ => e)
                                have hx8 : Ext wd w8 := Mod.trans HXe.out hm8 (fun i hi e => by injection e with e; omega)
                                have hx08 : Ext w0 w8 := Hwd5.out.trans hx8
                                have HO8 : Hid (Own w8 5 1 v' M (u8v D)) := Lib.hid (by simpa using ho)
                                have HV : Hid (∀ k, v'.ownBlock = some k → w.heap.size + 1 ≤ k) := Lib.hid (fun k hk => by
                                  rcases hv' with h | h
                                  · rw [h] at hk
                                    have hk2 : some wd.heap.size = some k := hk
                                    injection hk2 with hk2; omega
                                  · rw [h] at hk
                                    have e : (wd.alloc (.cells #[] 5)).heap.size = wd.heap.size + 1 := by simp
                                    injection hk with hk; omega)
                                obtain ⟨D', dc, rfl, -, -⟩ := HO8.out.form
                                have HZ := Lib.hid ((Mod.block hx08 _ hs0 (fun f => f)).trans HZ0.out)
                                have hz := fun i => cell_of_row _ _ i _ 70 (0, 0) HZ.out
                                have hz0 := hz 0
                                have hz1 := hz 1
                                have hz2 := hz 2
                                have hz3 := hz 3
                                have hz4 := hz 4
                                have hz5' := hz 5
                                simp only [List.getElem?_toArray, List.getElem?_cons_zero, List.getElem?_cons_succ] at hz0 hz1 hz2 hz3 hz4 hz5'
                                have hzf : ∀ o, w8.frozen? ⟨w.heap.size, o, none⟩ = false := fun o => by simp [World.frozen?, HZ.out]
                                have zf0 := hzf 0
                                have zf1 := hzf 1
                                have zf2 := hzf 2
                                have zf3 := hzf 3
                                have zf4 := hzf 4
                                have zf5 := hzf 5
                                have HX08 := Lib.hid hx08
                                clear hzf hz ho hgr hv' hm8 hx8 hx08
                                go_wp2_with fail
                                obtain ⟨hx9, hc9⟩ := row6 HZ.out (.int .i64 (We : Int)) (.bool true) (.string (mkB P)) (.int .i8 K) (.slice D' M dc) (.bool false) (HX0.out.trans HX08.out) (Nat.le_refl _)
                                have q0 := hc9 0
                                have q1 := hc9 1
                                have q2 := hc9 2
                                have q3 := hc9 3
                                have q4 := hc9 4
                                have q5 := hc9 5
                                simp only [List.getElem?_toArray, List.getElem?_cons_zero, List.getElem?_cons_succ] at q0 q1 q2 q3 q4 q5
                                have HO9 : Own ((((((w8.setCell ⟨w.heap.size, 0, none⟩ (.int .i64 (We : Int))).setCell ⟨w.heap.size, 1, none⟩ (.bool true)).setCell ⟨w.heap.size, 2, none⟩ (.string (mkB P))).setCell ⟨w.heap.size, 3, none⟩ (.int .i8 K)).setCell ⟨w.heap.size, 4, none⟩ (.slice D' M dc)).setCell ⟨w.heap.size, 5, none⟩ (.bool false)) 5 1 (.slice D' M dc) M (u8v D) := HO8.out.mod (S := fun k => k = w.heap.size) (by
                                  repeat (refine Mod.setCell ?_ _ _ (fun _ => rfl))
                                  exact Mod.refl _ _) (fun k hk e => by have := HV.out k hk; omega)
                                exact bodyPost_ret (v := nextV (We : Int) true (mkB P) K (.slice D' M dc) false) (by simp [results, Tryd.results40, go_sem, q0, q1, q2, q3, q4, q5, nextV]) rfl (by
                                  rw [HF2.out]
                                  refine ⟨D', dc, by show _ = Ending.returned (nextV (We : Int) true (mkB P) K (.slice D' D.length dc) false); rw [HDl.out], hx9, ?_, fun k hk => ?_⟩
                                  · show Own _ 5 1 (.slice D' D.length dc) D.length (u8v D)
                                    rw [HDl.out]; exact HO9
                                  · have hk2 : (Value.slice D' D.length dc).ownBlock = some k := hk
                                    rw [HDl.out] at hk2
                                    have := HV.out k hk2; omega)
                              · have b2 : ((nu : Int) == (su : Int)) = false := beq_eq_false_iff_ne.2 (by omega)
                                have HF2 : Hid (F = .bad) := Lib.hid (by rw [← HF3.out]; exact fi9 H1.out H2.out HN.out H3.out H4.out H5.out H6.out HMm.out H7.out H8.out (by rw [HWh.out, Hnu.out, Hsu.out]; exact hns))
                                clear hns
                                repeat (first | (refine lin_take ?_ (by rfl) (fun wx hx => ?_) ?_; rotate_left; go_simp; (with_reducible rfl); try simp only [Act.put, List.setIfInBounds_toArray, List.set_cons_zero, List.set_cons_succ]) | (refine lin_skip (by rfl) ?_; try simp only [Act.put, List.setIfInBounds_toArray, List.set_cons_zero, List.set_cons_succ]) | (refine lin_take3 ?_ (by rfl) (fun wx hx => ?_) ?_; rotate_left; go_simp; (with_reducible rfl); try simp only [Act.put, List.setIfInBounds_toArray, List.set_cons_zero, List.set_cons_succ]) | (refine lin_skip3 (by rfl) ?_; try simp only [Act.put, List.setIfInBounds_toArray, List.set_cons_zero, List.set_cons_succ]))
                                refine lin_nil ?_
                                clear sA sB sC
                                have HZ := Lib.hid ((Mod.block hwd5 _ hs0 (fun f => f)).trans HZ0.out)
                                have hz := fun i => cell_of_row _ _ i _ 70 (0, 0) HZ.out
                                have hz0 := hz 0
                                have hz1 := hz 1
                                have hz2 := hz 2
                                have hz3 := hz 3
                                have hz4 := hz 4
                                have hz5 := hz 5
                                simp only [List.getElem?_toArray, List.getElem?_cons_zero, List.getElem?_cons_succ] at hz0 hz1 hz2 hz3 hz4 hz5
                                have hzf : ∀ o, wd.frozen? ⟨w.heap.size, o, none⟩ = false := fun o => by simp [World.frozen?, HZ.out]
                                have zf0 := hzf 0
                                have zf1 := hzf 1
                                have zf2 := hzf 2
                                have zf3 := hzf 3
                                have zf4 := hzf 4
                                have zf5 := hzf 5
                                clear hzf hz
                                (go_wp2_with fail) <;> (try (exfalso; omega))
                                obtain ⟨hx9, hc9⟩ := row6 HZ.out (.int .i64 0) (.bool false) (.string ⟨#[]⟩) (.int .i8 0) (.slice none 0 0) (.bool true) (HX0.out.trans hwd5) (Nat.le_refl _)
                                have q0 := hc9 0
                                have q1 := hc9 1
                                have q2 := hc9 2
                                have q3 := hc9 3
                                have q4 := hc9 4
                                have q5 := hc9 5
                                simp only [List.getElem?_toArray, List.getElem?_cons_zero, List.getElem?_cons_succ] at q0 q1 q2 q3 q4 q5
                                exact bodyPost_ret (v := nextV 0 false ⟨#[]⟩ 0 (.slice none 0 0) true) (by simp [results, Tryd.results40, go_sem, q0, q1, q2, q3, q4, q5, nextV]) rfl (by rw [HF2.out]; exact ⟨rfl, hx9⟩)
                          · skip
                            obtain ⟨M21, hM21⟩ : ∃ m, 21 + N = m := ⟨_, rfl⟩
                            have a21 : (21 : Int) + (N : Int) = (M21 : Int) := by omega
                            have a21' : IntKind.i64.wrap (M21 : Int) = (M21 : Int) := IntWalk.i64_in _ (by omega)
                            obtain ⟨We, hWe⟩ : ∃ m, M21 + M = m := ⟨_, rfl⟩
                            have aWe : (M21 : Int) + (M : Int) = (We : Int) := by omega
                            have aWe' : IntKind.i64.wrap (We : Int) = (We : Int) := IntWalk.i64_in _ (by omega)
                            obtain ⟨Wh, hWh⟩ : ∃ m, M13 + M = m := ⟨_, rfl⟩
                            have aWh : (M13 : Int) + (M : Int) = (Wh : Int) := by omega
                            have aWh' : IntKind.i64.wrap (Wh : Int) = (Wh : Int) := IntWalk.i64_in _ (by omega)
                            have HWe : Hid (21 + N + M = We) := Lib.hid (by omega)
                            have HWh : Hid (13 + N + M = Wh) := Lib.hid (by omega)
                            by_cases h10 : L < We
                            · have HF2 : Hid (F = .wait) := Lib.hid (by rw [← HF3.out]; exact fi8 H1.out H2.out HN.out H3.out H4.out H5.out H6.out HMm.out H7.out (by have := Hbl.out; omega))
                              have HZ := Lib.hid ((Mod.block hwd4 _ hs0 (fun f => f)).trans HZ0.out)
                              have hz := fun i => cell_of_row _ _ i _ 70 (0, 0) HZ.out
                              have hz0 := hz 0
                              have hz1 := hz 1
                              have hz2 := hz 2
                              have hz3 := hz 3
                              have hz4 := hz 4
                              have hz5 := hz 5
                              simp only [List.getElem?_toArray, List.getElem?_cons_zero, List.getElem?_cons_succ] at hz0 hz1 hz2 hz3 hz4 hz5
                              have hzf : ∀ o, w4.frozen? ⟨w.heap.size, o, none⟩ = false := fun o => by simp [World.frozen?, HZ.out]
                              have zf0 := hzf 0
                              have zf1 := hzf 1
                              have zf2 := hzf 2
                              have zf3 := hzf 3
                              have zf4 := hzf 4
                              have zf5 := hzf 5
                              clear hzf hz
                              (go_wp2_with fail) <;> (try (exfalso; omega))
                              obtain ⟨hx9, hc9⟩ := row6 HZ.out (.int .i64 0) (.bool false) (.string ⟨#[]⟩) (.int .i8 0) (.slice none 0 0) (.bool false) (HX0.out.trans hwd4) (Nat.le_refl _)
                              have q0 := hc9 0
                              have q1 := hc9 1
                              have q2 := hc9 2
                              have q3 := hc9 3
                              have q4 := hc9 4
                              have q5 := hc9 5
                              simp only [List.getElem?_toArray, List.getElem?_cons_zero, List.getElem?_cons_succ] at q0 q1 q2 q3 q4 q5
                              exact bodyPost_ret (v := nextV 0 false ⟨#[]⟩ 0 (.slice none 0 0) false) (by simp [results, Tryd.results40, go_sem, q0, q1, q2, q3, q4, q5, nextV]) rfl (by rw [HF2.out]; exact ⟨rfl, hx9⟩)
                            · have H8 : Hid (¬ b.length < 21 + N + M) := Lib.hid (by have := Hbl.out; omega)
                              have sA := fun wx => slice_ij (g := g) (o := o) (L := L) (C := C) (i := Wh) (j := We) (by omega) (by omega) (by omega) wx
                              have sB := fun wx => slice_j (A := some ⟨g, o, none⟩) (L := L) (C := C) (j := Wh) (by omega) wx
                              have sC := fun wx => slice_ij (g := g) (o := o) (L := L) (C := C) (i := M13) (j := Wh) (by omega) (by omega) (by omega) wx
                              rw [show We - Wh = 8 from by omega] at sA
                              rw [show Wh - M13 = M from by omega] at sC
                              have HP8 : Hid (BySl w4 (some ⟨g, o + Wh, none⟩) 8 ((b.drop Wh).take 8)) := Lib.hid ((HP.out.part (i := Wh) (k := 8) (by omega)).ext (HX0.out.trans hwd4))
                              have HPs : Hid (BySl w4 (some ⟨g, o, none⟩) Wh (b.take Wh)) := Lib.hid (by have := (HP.out.part (i := 0) (k := Wh) (by omega)).ext (HX0.out.trans hwd4); rwa [Nat.add_zero, List.drop_zero] at this)
                              have HPD : Hid (BySl w4 (some ⟨g, o + M13, none⟩) M ((b.drop M13).take M)) := Lib.hid ((HP.out.part (i := M13) (k := M) (by omega)).ext (HX0.out.trans hwd4))
                              obtain ⟨D, hD⟩ : ∃ D, (b.drop M13).take M = D := ⟨_, rfl⟩
                              have hDl : D.length = M := by rw [← hD]; simp; have := Hbl.out; omega
                              rw [hD] at HPD
                              have HD : Hid ((b.drop (13 + N)).take M = D) := Lib.hid (by rw [hM13]; exact hD)
                              obtain ⟨nu, hnu⟩ : ∃ z, numL ((b.drop Wh).take 8) = z := ⟨_, rfl⟩
                              obtain ⟨su, hsu⟩ : ∃ z, sumB Z (b.take Wh) = z := ⟨_, rfl⟩
                              have Hnu := Lib.hid hnu
                              have Hsu := Lib.hid hsu
                              have HDl := Lib.hid hDl
                              have HX4 := Lib.hid hwd4
                              have hWl : Wh ≤ 1073741824 := by omega
                              have hMl : M ≤ 1073741824 := by omega
                              clear hD hnu hsu hDl hwd4
                              (go_wp2_with fail) <;> (try (exfalso; omega))
                              refine region_lin (fun wx => Ext w4 wx) 100000 [(0, 3), (1, 3), (2, 3), (3, 3), (4, 3), (5, 3), (6, 3), (7, 3), (8, 3), (9, 3), (11, 3), (12, 3), (13, 3), (14, 3), (15, 3), (16, 3), (10, 1), (17, 1), (18, 3)] ?_ (by kernel_rfl) (by kernel_rfl) ?_ (fun _ _ _ _ _ h => h) ((Ext.refl _).drew) ?_
                              rotate_left
                              (simp only [planOps, List.mapM_cons, List.mapM_nil, List.getElem?_toArray, List.getElem?_cons_zero, List.getElem?_cons_succ, Option.map_some, Option.bind_eq_bind, Option.bind_some, Option.pure_def]; rfl)
                              intro wd hwd hxd
                              repeat (first | (refine lin_take ?_ (by rfl) (fun wx hx => ?_) ?_; rotate_left; go_simp; (with_reducible rfl); try simp only [Act.put, List.setIfInBounds_toArray, List.set_cons_zero, List.set_cons_succ]) | (refine lin_skip (by rfl) ?_; try simp only [Act.put, List.setIfInBounds_toArray, List.set_cons_zero, List.set_cons_succ]) | (refine lin_take3 ?_ (by rfl) (fun wx hx => ?_) ?_; rotate_left; go_simp; (with_reducible rfl); try simp only [Act.put, List.setIfInBounds_toArray, List.set_cons_zero, List.set_cons_succ]) | (refine lin_skip3 (by rfl) ?_; try simp only [Act.put, List.setIfInBounds_toArray, List.set_cons_zero, List.set_cons_succ]))
                              refine lin_run (by rfl) (fun KC hK => ?_)
                              go_simp
                              refine (rnumber_any (some ⟨g, o + Wh, none⟩) 8 _ _ wd (HP8.out.ext hwd) (by decide)).mono ?_
                              rintro e w7 ⟨rfl, rfl⟩
                              rw [Hnu.out]
                              refine hK _ _ hwd ?_
                              clear hK
                              try simp only [Act.put, List.setIfInBounds_toArray, List.set_cons_zero, List.set_cons_succ]
                              refine lin_run (by rfl) (fun KC hK => ?_)
                              go_simp
                              refine (rsum_any Z (some ⟨g, o, none⟩) Wh _ _ wd (HPs.out.ext hwd) (by omega)).mono ?_
                              rintro e w7 ⟨rfl, rfl⟩
                              rw [Hsu.out]
                              refine hK _ _ hwd ?_
                              clear hK
                              try simp only [Act.put, List.setIfInBounds_toArray, List.set_cons_zero, List.set_cons_succ]
                              have hwd5 := HX4.out.trans hwd
                              by_cases hns : nu = su
                              · have b2 : ((nu : Int) == (su : Int)) = true := by rw [hns]; simp
                                have HF2 : Hid (F = .item We ⟨P, K, D⟩) := Lib.hid (by rw [← HF3.out, fi10 H1.out H2.out HN.out H3.out H4.out H5.out H6.out HMm.out H7.out H8.out (by rw [HWh.out, Hnu.out, Hsu.out]; exact hns), HPP.out, HK.out, HD.out, HWe.out])
                                clear hns
                                repeat (first | (refine lin_take ?_ (by rfl) (fun wx hx => ?_) ?_; rotate_left; go_simp; (with_reducible rfl); try simp only [Act.put, List.setIfInBounds_toArray, List.set_cons_zero, List.set_cons_succ]) | (refine lin_skip (by rfl) ?_; try simp only [Act.put, List.setIfInBounds_toArray, List.set_cons_zero, List.set_cons_succ]) | (refine lin_take3 ?_ (by rfl) (fun wx hx => ?_) ?_; rotate_left; go_simp; (with_reducible rfl); try simp only [Act.put, List.setIfInBounds_toArray, List.set_cons_zero, List.set_cons_succ]) | (refine lin_skip3 (by rfl) ?_; try simp only [Act.put, List.setIfInBounds_toArray, List.set_cons_zero, List.set_cons_succ]))
                                refine lin_nil ?_
                                have HPD5 := Lib.hid (HPD.out.ext hwd)
                                have Hwd5 := Lib.hid hwd5
                                clear sA sB hwd hwd5 hxd
                                have HOe : Hid (Own (wd.alloc (.cells #[] 5)) 5 1 (.slice (some ⟨wd.heap.size, 0, none⟩) 0 0) 0 []) := Lib.hid ⟨rfl, .inr ⟨wd.heap.size, 0, 0, #[], rfl, heap_alloc_new wd _, Nat.le_refl _, by unfold maxLen; omega, by simp, rfl⟩⟩
                                have hxe : Ext wd (wd.alloc (.cells #[] 5)) := (Ext.refl _).alloc _
                                have HPDx := Lib.hid (HPD5.out.ext hxe)
                                have HXe := Lib.hid hxe
                                have hsd : w0.heap.size ≤ wd.heap.size := Hwd5.out.size
                                obtain ⟨i5, hi5, hz5, hsz5, hby5⟩ := info_parts Tryd.info5
                                clear hxe HPD5
                                go_wp2_with (at_builtin; refine wpList_append_own_any _ rfl (.tmp 173) (.tmp 181) 26 rfl 5 i5 _ 1 1 Tryd.underlying26 hi5 hz5 hsz5 hby5 rfl (by decide) (.slice (some ⟨wd.heap.size, 0, none⟩) 0 0) 0 [] rfl HOe.out (some ⟨g, o + M13, none⟩) M (C - M13) (u8v D) rfl (by rw [u8v_len, HDl.out, Nat.mul_one]) HPDx.out.news (u8v_one D) (by unfold maxLen; omega) (by omega) ?_)
                                intro v' w8 ho hgr hv'
                                have hm8 : Mod (fun k => some wd.heap.size = some k) (wd.alloc (.cells #[] 5)) w8 := (Mod.refl _ _).grown hgr (fun k e _ => e)
                                have hx8 : Ext wd w8 := Mod.trans HXe.out hm8 (fun i hi e => by injection e with e; omega)
                                have hx08 : Ext w0 w8 := Hwd5.out.trans hx8
                                have HO8 : Hid (Own w8 5 1 v' M (u8v D)) := Lib.hid (by simpa using ho)
                                have HV : Hid (∀ k, v'.ownBlock = some k → w.heap.size + 1 ≤ k) := Lib.hid (fun k hk => by
                                  rcases hv' with h | h
                                  · rw [h] at hk
                                    have hk2 : some wd.heap.size = some k := hk
                                    injection hk2 with hk2; omega
                                  · rw [h] at hk
                                    have e : (wd.alloc (.cells #[] 5)).heap.size = wd.heap.size + 1 := by simp
                                    injection hk with hk; omega)
                                obtain ⟨D', dc, rfl, -, -⟩ := HO8.out.form
                                have HZ := Lib.hid ((Mod.block hx08 _ hs0 (fun f => f)).trans HZ0.out)
                                have hz := fun i => cell_of_row _ _ i _ 70 (0, 0) HZ.out
                                have hz0 := hz 0
                                have hz1 := hz 1
                                have hz2 := hz 2
                                have hz3 := hz 3
                                have hz4 := hz 4
                                have hz5' := hz 5
                                simp only [List.getElem?_toArray, List.getElem?_cons_zero, List.getElem?_cons_succ] at hz0 hz1 hz2 hz3 hz4 hz5'
                                have hzf : ∀ o, w8.frozen? ⟨w.heap.size, o, none⟩ = false := fun o => by simp [World.frozen?, HZ.out]
                                have zf0 := hzf 0
                                have zf1 := hzf 1
                                have zf2 := hzf 2
                                have zf3 := hzf 3
                                have zf4 := hzf 4
                                have zf5 := hzf 5
                                have HX08 := Lib.hid hx08
                                clear hzf hz ho hgr hv' hm8 hx8 hx08
                                go_wp2_with fail
                                obtain ⟨hx9, hc9⟩ := row6 HZ.out (.int .i64 (We : Int)) (.bool true) (.string (mkB P)) (.int .i8 K) (.slice D' M dc) (.bool false) (HX0.out.trans HX08.out) (Nat.le_refl _)
                                have q0 := hc9 0
                                have q1 := hc9 1
                                have q2 := hc9 2
                                have q3 := hc9 3
                                have q4 := hc9 4
                                have q5 := hc9 5
                                simp only [List.getElem?_toArray, List.getElem?_cons_zero, List.getElem?_cons_succ] at q0 q1 q2 q3 q4 q5
                                have HO9 : Own ((((((w8.setCell ⟨w.heap.size, 0, none⟩ (.int .i64 (We : Int))).setCell ⟨w.heap.size, 1, none⟩ (.bool true)).setCell ⟨w.heap.size, 2, none⟩ (.string (mkB P))).setCell ⟨w.heap.size, 3, none⟩ (.int .i8 K)).setCell ⟨w.heap.size, 4, none⟩ (.slice D' M dc)).setCell ⟨w.heap.size, 5, none⟩ (.bool false)) 5 1 (.slice D' M dc) M (u8v D) := HO8.out.mod (S := fun k => k = w.heap.size) (by
                                  repeat (refine Mod.setCell ?_ _ _ (fun _ => rfl))
                                  exact Mod.refl _ _) (fun k hk e => by have := HV.out k hk; omega)
                                exact bodyPost_ret (v := nextV (We : Int) true (mkB P) K (.slice D' M dc) false) (by simp [results, Tryd.results40, go_sem, q0, q1, q2, q3, q4, q5, nextV]) rfl (by
                                  rw [HF2.out]
                                  refine ⟨D', dc, by show _ = Ending.returned (nextV (We : Int) true (mkB P) K (.slice D' D.length dc) false); rw [HDl.out], hx9, ?_, fun k hk => ?_⟩
                                  · show Own _ 5 1 (.slice D' D.length dc) D.length (u8v D)
                                    rw [HDl.out]; exact HO9
                                  · have hk2 : (Value.slice D' D.length dc).ownBlock = some k := hk
                                    rw [HDl.out] at hk2
                                    have := HV.out k hk2; omega)
                              · have b2 : ((nu : Int) == (su : Int)) = false := beq_eq_false_iff_ne.2 (by omega)
                                have HF2 : Hid (F = .bad) := Lib.hid (by rw [← HF3.out]; exact fi9 H1.out H2.out HN.out H3.out H4.out H5.out H6.out HMm.out H7.out H8.out (by rw [HWh.out, Hnu.out, Hsu.out]; exact hns))
                                clear hns
                                repeat (first | (refine lin_take ?_ (by rfl) (fun wx hx => ?_) ?_; rotate_left; go_simp; (with_reducible rfl); try simp only [Act.put, List.setIfInBounds_toArray, List.set_cons_zero, List.set_cons_succ]) | (refine lin_skip (by rfl) ?_; try simp only [Act.put, List.setIfInBounds_toArray, List.set_cons_zero, List.set_cons_succ]) | (refine lin_take3 ?_ (by rfl) (fun wx hx => ?_) ?_; rotate_left; go_simp; (with_reducible rfl); try simp only [Act.put, List.setIfInBounds_toArray, List.set_cons_zero, List.set_cons_succ]) | (refine lin_skip3 (by rfl) ?_; try simp only [Act.put, List.setIfInBounds_toArray, List.set_cons_zero, List.set_cons_succ]))
                                refine lin_nil ?_
                                clear sA sB sC
                                have HZ := Lib.hid ((Mod.block hwd5 _ hs0 (fun f => f)).trans HZ0.out)
                                have hz := fun i => cell_of_row _ _ i _ 70 (0, 0) HZ.out
                                have hz0 := hz 0
                                have hz1 := hz 1
                                have hz2 := hz 2
                                have hz3 := hz 3
                                have hz4 := hz 4
                                have hz5 := hz 5
                                simp only [List.getElem?_toArray, List.getElem?_cons_zero, List.getElem?_cons_succ] at hz0 hz1 hz2 hz3 hz4 hz5
                                have hzf : ∀ o, wd.frozen? ⟨w.heap.size, o, none⟩ = false := fun o => by simp [World.frozen?, HZ.out]
                                have zf0 := hzf 0
                                have zf1 := hzf 1
                                have zf2 := hzf 2
                                have zf3 := hzf 3
                                have zf4 := hzf 4
                                have zf5 := hzf 5
                                clear hzf hz
                                (go_wp2_with fail) <;> (try (exfalso; omega))
                                obtain ⟨hx9, hc9⟩ := row6 HZ.out (.int .i64 0) (.bool false) (.string ⟨#[]⟩) (.int .i8 0) (.slice none 0 0) (.bool true) (HX0.out.trans hwd5) (Nat.le_refl _)
                                have q0 := hc9 0
                                have q1 := hc9 1
                                have q2 := hc9 2
                                have q3 := hc9 3
                                have q4 := hc9 4
                                have q5 := hc9 5
                                simp only [List.getElem?_toArray, List.getElem?_cons_zero, List.getElem?_cons_succ] at q0 q1 q2 q3 q4 q5
                                exact bodyPost_ret (v := nextV 0 false ⟨#[]⟩ 0 (.slice none 0 0) true) (by simp [results, Tryd.results40, go_sem, q0, q1, q2, q3, q4, q5, nextV]) rfl (by rw [HF2.out]; exact ⟨rfl, hx9⟩)
                      · have v2 : decide ((4194304 : Int) < (M : Int)) = true := decide_eq_true (by omega)
                        have HF2 : Hid (F = .bad) := Lib.hid (by rw [← HF3.out]; exact fi7 H1.out H2.out HN.out H3.out H4.out H5.out H6.out HMm.out (fun h => u2 (hHl.1 (by have := h.2; rwa [HK.out] at this)).1))
                        clear hHl
                        have HZ := Lib.hid ((Mod.block hwd4 _ hs0 (fun f => f)).trans HZ0.out)
                        have hz := fun i => cell_of_row _ _ i _ 70 (0, 0) HZ.out
                        have hz0 := hz 0
                        have hz1 := hz 1
                        have hz2 := hz 2
                        have hz3 := hz 3
                        have hz4 := hz 4
                        have hz5 := hz 5
                        simp only [List.getElem?_toArray, List.getElem?_cons_zero, List.getElem?_cons_succ] at hz0 hz1 hz2 hz3 hz4 hz5
                        have hzf : ∀ o, w4.frozen? ⟨w.heap.size, o, none⟩ = false := fun o => by simp [World.frozen?, HZ.out]
                        have zf0 := hzf 0
                        have zf1 := hzf 1
                        have zf2 := hzf 2
                        have zf3 := hzf 3
                        have zf4 := hzf 4
                        have zf5 := hzf 5
                        clear hzf hz
                        (go_wp2_with fail) <;> (try (exfalso; omega))
                        obtain ⟨hx9, hc9⟩ := row6 HZ.out (.int .i64 0) (.bool false) (.string ⟨#[]⟩) (.int .i8 0) (.slice none 0 0) (.bool true) (HX0.out.trans hwd4) (Nat.le_refl _)
                        have q0 := hc9 0
                        have q1 := hc9 1
                        have q2 := hc9 2
                        have q3 := hc9 3
                        have q4 := hc9 4
                        have q5 := hc9 5
                        simp only [List.getElem?_toArray, List.getElem?_cons_zero, List.getElem?_cons_succ] at q0 q1 q2 q3 q4 q5
                        exact bodyPost_ret (v := nextV 0 false ⟨#[]⟩ 0 (.slice none 0 0) true) (by simp [results, Tryd.results40, go_sem, q0, q1, q2, q3, q4, q5, nextV]) rfl (by rw [HF2.out]; exact ⟨rfl, hx9⟩)
                    · have v1 : (((M : Int) + (M' : Int)) == 4294967295) = false := beq_eq_false_iff_ne.2 (by omega)
                      have HF2 : Hid (F = .bad) := Lib.hid (by rw [← HF3.out]; exact fi7 H1.out H2.out HN.out H3.out H4.out H5.out H6.out HMm.out (fun h => u1 (by rw [← HMm'.out]; exact h.1)))
                      clear hHl
                      have HZ := Lib.hid ((Mod.block hwd4 _ hs0 (fun f => f)).trans HZ0.out)
                      have hz := fun i => cell_of_row _ _ i _ 70 (0, 0) HZ.out
                      have hz0 := hz 0
                      have hz1 := hz 1
                      have hz2 := hz 2
                      have hz3 := hz 3
                      have hz4 := hz 4
                      have hz5 := hz 5
                      simp only [List.getElem?_toArray, List.getElem?_cons_zero, List.getElem?_cons_succ] at hz0 hz1 hz2 hz3 hz4 hz5
                      have hzf : ∀ o, w4.frozen? ⟨w.heap.size, o, none⟩ = false := fun o => by simp [World.frozen?, HZ.out]
                      have zf0 := hzf 0
                      have zf1 := hzf 1
                      have zf2 := hzf 2
                      have zf3 := hzf 3
                      have zf4 := hzf 4
                      have zf5 := hzf 5
                      clear hzf hz
                      (go_wp2_with fail) <;> (try (exfalso; omega))
                      obtain ⟨hx9, hc9⟩ := row6 HZ.out (.int .i64 0) (.bool false) (.string ⟨#[]⟩) (.int .i8 0) (.slice none 0 0) (.bool true) (HX0.out.trans hwd4) (Nat.le_refl _)
                      have q0 := hc9 0
                      have q1 := hc9 1
                      have q2 := hc9 2
                      have q3 := hc9 3
                      have q4 := hc9 4
                      have q5 := hc9 5
                      simp only [List.getElem?_toArray, List.getElem?_cons_zero, List.getElem?_cons_succ] at q0 q1 q2 q3 q4 q5
                      exact bodyPost_ret (v := nextV 0 false ⟨#[]⟩ 0 (.slice none 0 0) true) (by simp [results, Tryd.results40, go_sem, q0, q1, q2, q3, q4, q5, nextV]) rfl (by rw [HF2.out]; exact ⟨rfl, hx9⟩)
                · have kt : ¬ ((0 : Int) < (t : Int)) := by omega
                  by_cases h9 : L < M13
                  · have HF2 : Hid (F = .wait) := Lib.hid (by rw [← HF3.out]; exact fi6 H1.out H2.out HN.out H3.out H4.out H5.out (by have := Hbl.out; omega))
                    have HZ := Lib.hid ((Mod.block hwd4 _ hs0 (fun f => f)).trans HZ0.out)
                    have hz := fun i => cell_of_row _ _ i _ 70 (0, 0) HZ.out
                    have hz0 := hz 0
                    have hz1 := hz 1
                    have hz2 := hz 2
                    have hz3 := hz 3
                    have hz4 := hz 4
                    have hz5 := hz 5
                    simp only [List.getElem?_toArray, List.getElem?_cons_zero, List.getElem?_cons_succ] at hz0 hz1 hz2 hz3 hz4 hz5
                    have hzf : ∀ o, w4.frozen? ⟨w.heap.size, o, none⟩ = false := fun o => by simp [World.frozen?, HZ.out]
                    have zf0 := hzf 0
                    have zf1 := hzf 1
                    have zf2 := hzf 2
                    have zf3 := hzf 3
                    have zf4 := hzf 4
                    have zf5 := hzf 5
                    clear hzf hz
                    (go_wp2_with fail) <;> (try (exfalso; omega))
                    obtain ⟨hx9, hc9⟩ := row6 HZ.out (.int .i64 0) (.bool false) (.string ⟨#[]⟩) (.int .i8 0) (.slice none 0 0) (.bool false) (HX0.out.trans hwd4) (Nat.le_refl _)
                    have q0 := hc9 0
                    have q1 := hc9 1
                    have q2 := hc9 2
                    have q3 := hc9 3
                    have q4 := hc9 4
                    have q5 := hc9 5
                    simp only [List.getElem?_toArray, List.getElem?_cons_zero, List.getElem?_cons_succ] at q0 q1 q2 q3 q4 q5
                    exact bodyPost_ret (v := nextV 0 false ⟨#[]⟩ 0 (.slice none 0 0) false) (by simp [results, Tryd.results40, go_sem, q0, q1, q2, q3, q4, q5, nextV]) rfl (by rw [HF2.out]; exact ⟨rfl, hx9⟩)
                  · have H6 : Hid (¬ b.length < 13 + N) := Lib.hid (by have := Hbl.out; omega)
                    obtain ⟨M9, hM9⟩ : ∃ m, 9 + N = m := ⟨_, rfl⟩
                    have a9 : (9 : Int) + (N : Int) = (M9 : Int) := by omega
                    have a9' : IntKind.i64.wrap (M9 : Int) = (M9 : Int) := IntWalk.i64_in _ (by omega)
                    have s59 := fun wx => slice_ij (g := g) (o := o) (L := L) (C := C) (i := M5) (j := M9) (by omega) (by omega) (by omega) wx
                    have s913 := fun wx => slice_ij (g := g) (o := o) (L := L) (C := C) (i := M9) (j := M13) (by omega) (by omega) (by omega) wx
                    rw [show M9 - M5 = 4 from by omega] at s59
                    rw [show M13 - M9 = 4 from by omega] at s913
                    have HPm : Hid (BySl w (some ⟨g, o + M5, none⟩) 4 ((b.drop (5 + N)).take 4)) := Lib.hid (by have := HP.out.part (i := M5) (k := 4) (by omega); rwa [← HM5.out] at this ⊢)
                    have HPm' : Hid (BySl w (some ⟨g, o + M9, none⟩) 4 ((b.drop (9 + N)).take 4)) := Lib.hid (by have := HP.out.part (i := M9) (k := 4) (by omega); rwa [← hM9] at this ⊢)
                    have hlt4 : ∀ l : Bs, numL (l.take 4) ≤ 4294967295 := fun l => by
                      have h1 := numL_lt (l.take 4)
                      have h2 : 256 ^ (l.take 4).length ≤ 256 ^ 4 := Nat.pow_le_pow_right (by decide) (by simp; omega)
                      omega
                    have m1 := hlt4 (b.drop (5 + N))
                    have m2 := hlt4 (b.drop (9 + N))
                    obtain ⟨M, hM⟩ : ∃ z, numL ((b.drop (5 + N)).take 4) = z := ⟨_, rfl⟩
                    obtain ⟨M', hM'⟩ : ∃ z, numL ((b.drop (9 + N)).take 4) = z := ⟨_, rfl⟩
                    rw [hM] at m1
                    rw [hM'] at m2
                    have HMm := Lib.hid hM
                    have HMm' := Lib.hid hM'
                    have m3 : IntKind.i64.wrap (M : Int) = (M : Int) := IntWalk.i64_in _ (by omega)
                    have m4 : IntKind.i64.wrap (M' : Int) = (M' : Int) := IntWalk.i64_in _ (by omega)
                    have m5 : IntKind.i64.wrap ((M : Int) + (M' : Int)) = (M : Int) + (M' : Int) := IntWalk.i64_in _ (by omega)
                    have hHl := holds_le (M := M) Hkb.out
                    clear hlt4 hM hM' m1 m2
                    go_wp2_with fail
                    refine (rnumber_any (some ⟨g, o + M5, none⟩) 4 _ _ w4 (HPm.out.ext (HX0.out.trans hwd4)) (by decide)).mono ?_
                    rintro e w7 ⟨rfl, rfl⟩
                    rw [HMm.out]
                    go_wp2_with fail
                    refine (rempty_any K _).mono ?_
                    rintro e w7 ⟨rfl, rfl⟩
                    obtain ⟨dr, hdr⟩ : ∃ d, dryB K = d := ⟨_, rfl⟩
                    rw [hdr] at hHl ⊢
                    go_wp2_with fail
                    refine (rnumber_any (some ⟨g, o + M9, none⟩) 4 _ _ w4 (HPm'.out.ext (HX0.out.trans hwd4)) (by decide)).mono ?_
                    rintro e w7 ⟨rfl, rfl⟩
                    rw [HMm'.out]
                    clear s59 s913
                    by_cases u1 : M + M' = 4294967295
                    · have v1 : (((M : Int) + (M' : Int)) == 4294967295) = true := by rw [beq_iff_eq]; omega
                      by_cases u2 : M ≤ 4194304
                      · have v2 : decide ((4194304 : Int) < (M : Int)) = false := decide_eq_false (by omega)
                        by_cases u3 : dr = true ∧ 0 < M
                        · have HF2 : Hid (F = .bad) := Lib.hid (by rw [← HF3.out]; exact fi7 H1.out H2.out HN.out H3.out H4.out H5.out H6.out HMm.out (fun h => (hHl.1 (by have := h.2; rwa [HK.out] at this)).2 u3))
                          obtain ⟨rfl, u4⟩ := u3
                          have v3 : decide (0 < M) = true := decide_eq_true u4
                          clear hHl
                          have HZ := Lib.hid ((Mod.block hwd4 _ hs0 (fun f => f)).trans HZ0.out)
                          have hz := fun i => cell_of_row _ _ i _ 70 (0, 0) HZ.out
                          have hz0 := hz 0
                          have hz1 := hz 1
                          have hz2 := hz 2
                          have hz3 := hz 3
                          have hz4 := hz 4
                          have hz5 := hz 5
                          simp only [List.getElem?_toArray, List.getElem?_cons_zero, List.getElem?_cons_succ] at hz0 hz1 hz2 hz3 hz4 hz5
                          have hzf : ∀ o, w4.frozen? ⟨w.heap.size, o, none⟩ = false := fun o => by simp [World.frozen?, HZ.out]
                          have zf0 := hzf 0
                          have zf1 := hzf 1
                          have zf2 := hzf 2
                          have zf3 := hzf 3
                          have zf4 := hzf 4
                          have zf5 := hzf 5
                          clear hzf hz
                          (go_wp2_with fail) <;> (try (exfalso; omega))
                          obtain ⟨hx9, hc9⟩ := row6 HZ.out (.int .i64 0) (.bool false) (.string ⟨#[]⟩) (.int .i8 0) (.slice none 0 0) (.bool true) (HX0.out.trans hwd4) (Nat.le_refl _)
                          have q0 := hc9 0
                          have q1 := hc9 1
                          have q2 := hc9 2
                          have q3 := hc9 3
                          have q4 := hc9 4
                          have q5 := hc9 5
                          simp only [List.getElem?_toArray, List.getElem?_cons_zero, List.getElem?_cons_succ] at q0 q1 q2 q3 q4 q5
                          exact bodyPost_ret (v := nextV 0 false ⟨#[]⟩ 0 (.slice none 0 0) true) (by simp [results, Tryd.results40, go_sem, q0, q1, q2, q3, q4, q5, nextV]) rfl (by rw [HF2.out]; exact ⟨rfl, hx9⟩)
                        · have H7 : Hid (M + numL ((b.drop (9 + N)).take 4) = 4294967295 ∧ (M : Int) ≤ holdsN (kint k)) := Lib.hid ⟨by rw [HMm'.out]; exact u1, by rw [HK.out]; exact hHl.2 ⟨u2, u3⟩⟩
                          have v3 : dr = false ∨ (dr = true ∧ decide (0 < M) = false) := by
                            cases dr with
                            | false => exact .inl rfl
                            | true => exact .inr ⟨rfl, decide_eq_false (fun h => u3 ⟨rfl, h⟩)⟩
                          clear hHl u3 hdr
                          rcases v3 with rfl | ⟨rfl, v4⟩
                          · skip
                            obtain ⟨M21, hM21⟩ : ∃ m, 21 + N = m := ⟨_, rfl⟩
                            have a21 : (21 : Int) + (N : Int) = (M21 : Int) := by omega
                            have a21' : IntKind.i64.wrap (M21 : Int) = (M21 : Int) := IntWalk.i64_in _ (by omega)
                            obtain ⟨We, hWe⟩ : ∃ m, M21 + M = m := ⟨_, rfl⟩
                            have aWe : (M21 : Int) + (M : Int) = (We : Int) := by omega
                            have aWe' : IntKind.i64.wrap (We : Int) = (We : Int) := IntWalk.i64_in _ (by omega)
                            obtain ⟨Wh, hWh⟩ : ∃ m, M13 + M = m := ⟨_, rfl⟩
                            have aWh : (M13 : Int) + (M : Int) = (Wh : Int) := by omega
                            have aWh' : IntKind.i64.wrap (Wh : Int) = (Wh : Int) := IntWalk.i64_in _ (by omega)
                            have HWe : Hid (21 + N + M = We) := Lib.hid (by omega)
                            have HWh : Hid (13 + N + M = Wh) := Lib.hid (by omega)
                            by_cases h10 : L < We
                            · have HF2 : Hid (F = .wait) := Lib.hid (by rw [← HF3.out]; exact fi8 H1.out H2.out HN.out H3.out H4.out H5.out H6.out HMm.out H7.out (by have := Hbl.out; omega))
                              have HZ := Lib.hid ((Mod.block hwd4 _ hs0 (fun f => f)).trans HZ0.out)
                              have hz := fun i => cell_of_row _ _ i _ 70 (0, 0) HZ.out
                              have hz0 := hz 0
                              have hz1 := hz 1
                              have hz2 := hz 2
                              have hz3 := hz 3
                              have hz4 := hz 4
                              have hz5 := hz 5
                              simp only [List.getElem?_toArray, List.getElem?_cons_zero, List.getElem?_cons_succ] at hz0 hz1 hz2 hz3 hz4 hz5
                              have hzf : ∀ o, w4.frozen? ⟨w.heap.size, o, none⟩ = false := fun o => by simp [World.frozen?, HZ.out]
                              have zf0 := hzf 0
                              have zf1 := hzf 1
                              have zf2 := hzf 2
                              have zf3 := hzf 3
                              have zf4 := hzf 4
                              have zf5 := hzf 5
                              clear hzf hz
                              (go_wp2_with fail) <;> (try (exfalso; omega))
                              obtain ⟨hx9, hc9⟩ := row6 HZ.out (.int .i64 0) (.bool false) (.string ⟨#[]⟩) (.int .i8 0) (.slice none 0 0) (.bool false) (HX0.out.trans hwd4) (Nat.le_refl _)
                              have q0 := hc9 0
                              have q1 := hc9 1
                              have q2 := hc9 2
                              have q3 := hc9 3
                              have q4 := hc9 4
                              have q5 := hc9 5
                              simp only [List.getElem?_toArray, List.getElem?_cons_zero, List.getElem?_cons_succ] at q0 q1 q2 q3 q4 q5
                              exact bodyPost_ret (v := nextV 0 false ⟨#[]⟩ 0 (.slice none 0 0) false) (by simp [results, Tryd.results40, go_sem, q0, q1, q2, q3, q4, q5, nextV]) rfl (by rw [HF2.out]; exact ⟨rfl, hx9⟩)
                            · have H8 : Hid (¬ b.length < 21 + N + M) := Lib.hid (by have := Hbl.out; omega)
                              have sA := fun wx => slice_ij (g := g) (o := o) (L := L) (C := C) (i := Wh) (j := We) (by omega) (by omega) (by omega) wx
                              have sB := fun wx => slice_j (A := some ⟨g, o, none⟩) (L := L) (C := C) (j := Wh) (by omega) wx
                              have sC := fun wx => slice_ij (g := g) (o := o) (L := L) (C := C) (i := M13) (j := Wh) (by omega) (by omega) (by omega) wx
                              rw [show We - Wh = 8 from by omega] at sA
                              rw [show Wh - M13 = M from by omega] at sC
                              have HP8 : Hid (BySl w4 (some ⟨g, o + Wh, none⟩) 8 ((b.drop Wh).take 8)) := Lib.hid ((HP.out.part (i := Wh) (k := 8) (by omega)).ext (HX0.out.trans hwd4))
                              have HPs : Hid (BySl w4 (some ⟨g, o, none⟩) Wh (b.take Wh)) := Lib.hid (by have := (HP.out.part (i := 0) (k := Wh) (by omega)).ext (HX0.out.trans hwd4); rwa [Nat.add_zero, List.drop_zero] at this)
                              have HPD : Hid (BySl w4 (some ⟨g, o + M13, none⟩) M ((b.drop M13).take M)) := Lib.hid ((HP.out.part (i := M13) (k := M) (by omega)).ext (HX0.out.trans hwd4))
                              obtain ⟨D, hD⟩ : ∃ D, (b.drop M13).take M = D := ⟨_, rfl⟩
                              have hDl : D.length = M := by rw [← hD]; simp; have := Hbl.out; omega
                              rw [hD] at HPD
                              have HD : Hid ((b.drop (13 + N)).take M = D) := Lib.hid (by rw [hM13]; exact hD)
                              obtain ⟨nu, hnu⟩ : ∃ z, numL ((b.drop Wh).take 8) = z := ⟨_, rfl⟩
                              obtain ⟨su, hsu⟩ : ∃ z, sumB Z (b.take Wh) = z := ⟨_, rfl⟩
                              have Hnu := Lib.hid hnu
                              have Hsu := Lib.hid hsu
                              have HDl := Lib.hid hDl
                              have HX4 := Lib.hid hwd4
                              have hWl : Wh ≤ 1073741824 := by omega
                              have hMl : M ≤ 1073741824 := by omega
                              clear hD hnu hsu hDl hwd4
                              (go_wp2_with fail) <;> (try (exfalso; omega))
                              refine region_lin (fun wx => Ext w4 wx) 100000 [(0, 3), (1, 3), (2, 3), (3, 3), (4, 3), (5, 3), (6, 3), (7, 3), (8, 3), (9, 3), (11, 3), (12, 3), (13, 3), (14, 3), (15, 3), (16, 3), (10, 1), (17, 1), (18, 3)] ?_ (by kernel_rfl) (by kernel_rfl) ?_ (fun _ _ _ _ _ h => h) ((Ext.refl _).drew) ?_
                              rotate_left
                              (simp only [planOps, List.mapM_cons, List.mapM_nil, List.getElem?_toArray, List.getElem?_cons_zero, List.getElem?_cons_succ, Option.map_some, Option.bind_eq_bind, Option.bind_some, Option.pure_def]; rfl)
                              intro wd hwd hxd
                              repeat (first | (refine lin_take ?_ (by rfl) (fun wx hx => ?_) ?_; rotate_left; go_simp; (with_reducible rfl); try simp only [Act.put, List.setIfInBounds_toArray, List.set_cons_zero, List.set_cons_succ]) | (refine lin_skip (by rfl) ?_; try simp only [Act.put, List.setIfInBounds_toArray, List.set_cons_zero, List.set_cons_succ]) | (refine lin_take3 ?_ (by rfl) (fun wx hx => ?_) ?_; rotate_left; go_simp; (with_reducible rfl); try simp only [Act.put, List.setIfInBounds_toArray, List.set_cons_zero, List.set_cons_succ]) | (refine lin_skip3 (by rfl) ?_; try simp only [Act.put, List.setIfInBounds_toArray, List.set_cons_zero, List.set_cons_succ]))
                              refine lin_run (by rfl) (fun KC hK => ?_)
                              go_simp
                              refine (rnumber_any (some ⟨g, o + Wh, none⟩) 8 _ _ wd (HP8.out.ext hwd) (by decide)).mono ?_
                              rintro e w7 ⟨rfl, rfl⟩
                              rw [Hnu.out]
                              refine hK _ _ hwd ?_
                              clear hK
                              try simp only [Act.put, List.setIfInBounds_toArray, List.set_cons_zero, List.set_cons_succ]
                              refine lin_run (by rfl) (fun KC hK => ?_)
                              go_simp
                              refine (rsum_any Z (some ⟨g, o, none⟩) Wh _ _ wd (HPs.out.ext hwd) (by omega)).mono ?_
                              rintro e w7 ⟨rfl, rfl⟩
                              rw [Hsu.out]
                              refine hK _ _ hwd ?_
                              clear hK
                              try simp only [Act.put, List.setIfInBounds_toArray, List.set_cons_zero, List.set_cons_succ]
                              have hwd5 := HX4.out.trans hwd
                              by_cases hns : nu = su
                              · have b2 : ((nu : Int) == (su : Int)) = true := by rw [hns]; simp
                                have HF2 : Hid (F = .item We ⟨P, K, D⟩) := Lib.hid (by rw [← HF3.out, fi10 H1.out H2.out HN.out H3.out H4.out H5.out H6.out HMm.out H7.out H8.out (by rw [HWh.out, Hnu.out, Hsu.out]; exact hns), HPP.out, HK.out, HD.out, HWe.out])
                                clear hns
                                repeat (first | (refine lin_take ?_ (by rfl) (fun wx hx => ?_) ?_; rotate_left; go_simp; (with_reducible rfl); try simp only [Act.put, List.setIfInBounds_toArray, List.set_cons_zero, List.set_cons_succ]) | (refine lin_skip (by rfl) ?_; try simp only [Act.put, List.setIfInBounds_toArray, List.set_cons_zero, List.set_cons_succ]) | (refine lin_take3 ?_ (by rfl) (fun wx hx => ?_) ?_; rotate_left; go_simp; (with_reducible rfl); try simp only [Act.put, List.setIfInBounds_toArray, List.set_cons_zero, List.set_cons_succ]) | (refine lin_skip3 (by rfl) ?_; try simp only [Act.put, List.setIfInBounds_toArray, List.set_cons_zero, List.set_cons_succ]))
                                refine lin_nil ?_
                                have HPD5 := Lib.hid (HPD.out.ext hwd)
                                have Hwd5 := Lib.hid hwd5
                                clear sA sB hwd hwd5 hxd
                                have HOe : Hid (Own (wd.alloc (.cells #[] 5)) 5 1 (.slice (some ⟨wd.heap.size, 0, none⟩) 0 0) 0 []) := Lib.hid ⟨rfl, .inr ⟨wd.heap.size, 0, 0, #[], rfl, heap_alloc_new wd _, Nat.le_refl _, by unfold maxLen; omega, by simp, rfl⟩⟩
                                have hxe : Ext wd (wd.alloc (.cells #[] 5)) := (Ext.refl _).alloc _
                                have HPDx := Lib.hid (HPD5.out.ext hxe)
                                have HXe := Lib.hid hxe
                                have hsd : w0.heap.size ≤ wd.heap.size := Hwd5.out.size
                                obtain ⟨i5, hi5, hz5, hsz5, hby5⟩ := info_parts Tryd.info5
                                clear hxe HPD5
                                go_wp2_with (at_builtin; refine wpList_append_own_any _ rfl (.tmp 173) (.tmp 181) 26 rfl 5 i5 _ 1 1 Tryd.underlying26 hi5 hz5 hsz5 hby5 rfl (by decide) (.slice (some ⟨wd.heap.size, 0, none⟩) 0 0) 0 [] rfl HOe.out (some ⟨g, o + M13, none⟩) M (C - M13) (u8v D) rfl (by rw [u8v_len, HDl.out, Nat.mul_one]) HPDx.out.news (u8v_one D) (by unfold maxLen; omega) (by omega) ?_)
                                intro v' w8 ho hgr hv'
                                have hm8 : Mod (fun k => some wd.heap.size = some k) (wd.alloc (.cells #[] 5)) w8 := (Mod.refl _ _).grown hgr (fun k e _ => e)
                                have hx8 : Ext wd w8 := Mod.trans HXe.out hm8 (fun i hi e => by injection e with e; omega)
                                have hx08 : Ext w0 w8 := Hwd5.out.trans hx8
                                have HO8 : Hid (Own w8 5 1 v' M (u8v D)) := Lib.hid (by simpa using ho)
                                have HV : Hid (∀ k, v'.ownBlock = some k → w.heap.size + 1 ≤ k) := Lib.hid (fun k hk => by
                                  rcases hv' with h | h
                                  · rw [h] at hk
                                    have hk2 : some wd.heap.size = some k := hk
                                    injection hk2 with hk2; omega
                                  · rw [h] at hk
                                    have e : (wd.alloc (.cells #[] 5)).heap.size = wd.heap.size + 1 := by simp
                                    injection hk with hk; omega)
                                obtain ⟨D', dc, rfl, -, -⟩ := HO8.out.form
                                have HZ := Lib.hid ((Mod.block hx08 _ hs0 (fun f => f)).trans HZ0.out)
                                have hz := fun i => cell_of_row _ _ i _ 70 (0, 0) HZ.out
                                have hz0 := hz 0
                                have hz1 := hz 1
                                have hz2 := hz 2
                                have hz3 := hz 3
                                have hz4 := hz 4
                                have hz5' := hz 5
                                simp only [List.getElem?_toArray, List.getElem?_cons_zero, List.getElem?_cons_succ] at hz0 hz1 hz2 hz3 hz4 hz5'
                                have hzf : ∀ o, w8.frozen? ⟨w.heap.size, o, none⟩ = false := fun o => by simp [World.frozen?, HZ.out]
                                have zf0 := hzf 0
                                have zf1 := hzf 1
                                have zf2 := hzf 2
                                have zf3 := hzf 3
                                have zf4 := hzf 4
                                have zf5 := hzf 5
                                have HX08 := Lib.hid hx08
                                clear hzf hz ho hgr hv' hm8 hx8 hx08
                                go_wp2_with fail
                                obtain ⟨hx9, hc9⟩ := row6 HZ.out (.int .i64 (We : Int)) (.bool true) (.string (mkB P)) (.int .i8 K) (.slice D' M dc) (.bool false) (HX0.out.trans HX08.out) (Nat.le_refl _)
                                have q0 := hc9 0
                                have q1 := hc9 1
                                have q2 := hc9 2
                                have q3 := hc9 3
                                have q4 := hc9 4
                                have q5 := hc9 5
                                simp only [List.getElem?_toArray, List.getElem?_cons_zero, List.getElem?_cons_succ] at q0 q1 q2 q3 q4 q5
                                have HO9 : Own ((((((w8.setCell ⟨w.heap.size, 0, none⟩ (.int .i64 (We : Int))).setCell ⟨w.heap.size, 1, none⟩ (.bool true)).setCell ⟨w.heap.size, 2, none⟩ (.string (mkB P))).setCell ⟨w.heap.size, 3, none⟩ (.int .i8 K)).setCell ⟨w.heap.size, 4, none⟩ (.slice D' M dc)).setCell ⟨w.heap.size, 5, none⟩ (.bool false)) 5 1 (.slice D' M dc) M (u8v D) := HO8.out.mod (S := fun k => k = w.heap.size) (by
                                  repeat (refine Mod.setCell ?_ _ _ (fun _ => rfl))
                                  exact Mod.refl _ _) (fun k hk e => by have := HV.out k hk; omega)
                                exact bodyPost_ret (v := nextV (We : Int) true (mkB P) K (.slice D' M dc) false) (by simp [results, Tryd.results40, go_sem, q0, q1, q2, q3, q4, q5, nextV]) rfl (by
                                  rw [HF2.out]
                                  refine ⟨D', dc, by show _ = Ending.returned (nextV (We : Int) true (mkB P) K (.slice D' D.length dc) false); rw [HDl.out], hx9, ?_, fun k hk => ?_⟩
                                  · show Own _ 5 1 (.slice D' D.length dc) D.length (u8v D)
                                    rw [HDl.out]; exact HO9
                                  · have hk2 : (Value.slice D' D.length dc).ownBlock = some k := hk
                                    rw [HDl.out] at hk2
                                    have := HV.out k hk2; omega)
                              · have b2 : ((nu : Int) == (su : Int)) = false := beq_eq_false_iff_ne.2 (by omega)
                                have HF2 : Hid (F = .bad) := Lib.hid (by rw [← HF3.out]; exact fi9 H1.out H2.out HN.out H3.out H4.out H5.out H6.out HMm.out H7.out H8.out (by rw [HWh.out, Hnu.out, Hsu.out]; exact hns))
                                clear hns
                                repeat (first | (refine lin_take ?_ (by rfl) (fun wx hx => ?_) ?_; rotate_left; go_simp; (with_reducible rfl); try simp only [Act.put, List.setIfInBounds_toArray, List.set_cons_zero, List.set_cons_succ]) | (refine lin_skip (by rfl) ?_; try simp only [Act.put, List.setIfInBounds_toArray, List.set_cons_zero, List.set_cons_succ]) | (refine lin_take3 ?_ (by rfl) (fun wx hx => ?_) ?_; rotate_left; go_simp; (with_reducible rfl); try simp only [Act.put, List.setIfInBounds_toArray, List.set_cons_zero, List.set_cons_succ]) | (refine lin_skip3 (by rfl) ?_; try simp only [Act.put, List.setIfInBounds_toArray, List.set_cons_zero, List.set_cons_succ]))
                                refine lin_nil ?_
                                clear sA sB sC
                                have HZ := Lib.hid ((Mod.block hwd5 _ hs0 (fun f => f)).trans HZ0.out)
                                have hz := fun i => cell_of_row _ _ i _ 70 (0, 0) HZ.out
                                have hz0 := hz 0
                                have hz1 := hz 1
                                have hz2 := hz 2
                                have hz3 := hz 3
                                have hz4 := hz 4
                                have hz5 := hz 5
                                simp only [List.getElem?_toArray, List.getElem?_cons_zero, List.getElem?_cons_succ] at hz0 hz1 hz2 hz3 hz4 hz5
                                have hzf : ∀ o, wd.frozen? ⟨w.heap.size, o, none⟩ = false := fun o => by simp [World.frozen?, HZ.out]
                                have zf0 := hzf 0
                                have zf1 := hzf 1
                                have zf2 := hzf 2
                                have zf3 := hzf 3
                                have zf4 := hzf 4
                                have zf5 := hzf 5
                                clear hzf hz
                                (go_wp2_with fail) <;> (try (exfalso; omega))
                                obtain ⟨hx9, hc9⟩ := row6 HZ.out (.int .i64 0) (.bool false) (.string ⟨#[]⟩) (.int .i8 0) (.slice none 0 0) (.bool true) (HX0.out.trans hwd5) (Nat.le_refl _)
                                have q0 := hc9 0
                                have q1 := hc9 1
                                have q2 := hc9 2
                                have q3 := hc9 3
                                have q4 := hc9 4
                                have q5 := hc9 5
                                simp only [List.getElem?_toArray, List.getElem?_cons_zero, List.getElem?_cons_succ] at q0 q1 q2 q3 q4 q5
                                exact bodyPost_ret (v := nextV 0 false ⟨#[]⟩ 0 (.slice none 0 0) true) (by simp [results, Tryd.results40, go_sem, q0, q1, q2, q3, q4, q5, nextV]) rfl (by rw [HF2.out]; exact ⟨rfl, hx9⟩)
                          · skip
                            obtain ⟨M21, hM21⟩ : ∃ m, 21 + N = m := ⟨_, rfl⟩
                            have a21 : (21 : Int) + (N : Int) = (M21 : Int) := by omega
                            have a21' : IntKind.i64.wrap (M21 : Int) = (M21 : Int) := IntWalk.i64_in _ (by omega)
                            obtain ⟨We, hWe⟩ : ∃ m, M21 + M = m := ⟨_, rfl⟩
                            have aWe : (M21 : Int) + (M : Int) = (We : Int) := by omega
                            have aWe' : IntKind.i64.wrap (We : Int) = (We : Int) := IntWalk.i64_in _ (by omega)
                            obtain ⟨Wh, hWh⟩ : ∃ m, M13 + M = m := ⟨_, rfl⟩
                            have aWh : (M13 : Int) + (M : Int) = (Wh : Int) := by omega
                            have aWh' : IntKind.i64.wrap (Wh : Int) = (Wh : Int) := IntWalk.i64_in _ (by omega)
                            have HWe : Hid (21 + N + M = We) := Lib.hid (by omega)
                            have HWh : Hid (13 + N + M = Wh) := Lib.hid (by omega)
                            by_cases h10 : L < We
                            · have HF2 : Hid (F = .wait) := Lib.hid (by rw [← HF3.out]; exact fi8 H1.out H2.out HN.out H3.out H4.out H5.out H6.out HMm.out H7.out (by have := Hbl.out; omega))
                              have HZ := Lib.hid ((Mod.block hwd4 _ hs0 (fun f => f)).trans HZ0.out)
                              have hz := fun i => cell_of_row _ _ i _ 70 (0, 0) HZ.out
                              have hz0 := hz 0
                              have hz1 := hz 1
                              have hz2 := hz 2
                              have hz3 := hz 3
                              have hz4 := hz 4
                              have hz5 := hz 5
                              simp only [List.getElem?_toArray, List.getElem?_cons_zero, List.getElem?_cons_succ] at hz0 hz1 hz2 hz3 hz4 hz5
                              have hzf : ∀ o, w4.frozen? ⟨w.heap.size, o, none⟩ = false := fun o => by simp [World.frozen?, HZ.out]
                              have zf0 := hzf 0
                              have zf1 := hzf 1
                              have zf2 := hzf 2
                              have zf3 := hzf 3
                              have zf4 := hzf 4
                              have zf5 := hzf 5
                              clear hzf hz
                              (go_wp2_with fail) <;> (try (exfalso; omega))
                              obtain ⟨hx9, hc9⟩ := row6 HZ.out (.int .i64 0) (.bool false) (.string ⟨#[]⟩) (.int .i8 0) (.slice none 0 0) (.bool false) (HX0.out.trans hwd4) (Nat.le_refl _)
                              have q0 := hc9 0
                              have q1 := hc9 1
                              have q2 := hc9 2
                              have q3 := hc9 3
                              have q4 := hc9 4
                              have q5 := hc9 5
                              simp only [List.getElem?_toArray, List.getElem?_cons_zero, List.getElem?_cons_succ] at q0 q1 q2 q3 q4 q5
                              exact bodyPost_ret (v := nextV 0 false ⟨#[]⟩ 0 (.slice none 0 0) false) (by simp [results, Tryd.results40, go_sem, q0, q1, q2, q3, q4, q5, nextV]) rfl (by rw [HF2.out]; exact ⟨rfl, hx9⟩)
                            · have H8 : Hid (¬ b.length < 21 + N + M) := Lib.hid (by have := Hbl.out; omega)
                              have sA := fun wx => slice_ij (g := g) (o := o) (L := L) (C := C) (i := Wh) (j := We) (by omega) (by omega) (by omega) wx
                              have sB := fun wx => slice_j (A := some ⟨g, o, none⟩) (L := L) (C := C) (j := Wh) (by omega) wx
                              have sC := fun wx => slice_ij (g := g) (o := o) (L := L) (C := C) (i := M13) (j := Wh) (by omega) (by omega) (by omega) wx
                              rw [show We - Wh = 8 from by omega] at sA
                              rw [show Wh - M13 = M from by omega] at sC
                              have HP8 : Hid (BySl w4 (some ⟨g, o + Wh, none⟩) 8 ((b.drop Wh).take 8)) := Lib.hid ((HP.out.part (i := Wh) (k := 8) (by omega)).ext (HX0.out.trans hwd4))
                              have HPs : Hid (BySl w4 (some ⟨g, o, none⟩) Wh (b.take Wh)) := Lib.hid (by have := (HP.out.part (i := 0) (k := Wh) (by omega)).ext (HX0.out.trans hwd4); rwa [Nat.add_zero, List.drop_zero] at this)
                              have HPD : Hid (BySl w4 (some ⟨g, o + M13, none⟩) M ((b.drop M13).take M)) := Lib.hid ((HP.out.part (i := M13) (k := M) (by omega)).ext (HX0.out.trans hwd4))
                              obtain ⟨D, hD⟩ : ∃ D, (b.drop M13).take M = D := ⟨_, rfl⟩
                              have hDl : D.length = M := by rw [← hD]; simp; have := Hbl.out; omega
                              rw [hD] at HPD
                              have HD : Hid ((b.drop (13 + N)).take M = D) := Lib.hid (by rw [hM13]; exact hD)
                              obtain ⟨nu, hnu⟩ : ∃ z, numL ((b.drop Wh).take 8) = z := ⟨_, rfl⟩
                              obtain ⟨su, hsu⟩ : ∃ z, sumB Z (b.take Wh) = z := ⟨_, rfl⟩
                              have Hnu := Lib.hid hnu
                              have Hsu := Lib.hid hsu
                              have HDl := Lib.hid hDl
                              have HX4 := Lib.hid hwd4
                              have hWl : Wh ≤ 1073741824 := by omega
                              have hMl : M ≤ 1073741824 := by omega
                              clear hD hnu hsu hDl hwd4
                              (go_wp2_with fail) <;> (try (exfalso; omega))
                              refine region_lin (fun wx => Ext w4 wx) 100000 [(0, 3), (1, 3), (2, 3), (3, 3), (4, 3), (5, 3), (6, 3), (7, 3), (8, 3), (9, 3), (11, 3), (12, 3), (13, 3), (14, 3), (15, 3), (16, 3), (10, 1), (17, 1), (18, 3)] ?_ (by kernel_rfl) (by kernel_rfl) ?_ (fun _ _ _ _ _ h => h) ((Ext.refl _).drew) ?_
                              rotate_left
                              (simp only [planOps, List.mapM_cons, List.mapM_nil, List.getElem?_toArray, List.getElem?_cons_zero, List.getElem?_cons_succ, Option.map_some, Option.bind_eq_bind, Option.bind_some, Option.pure_def]; rfl)
                              intro wd hwd hxd
                              repeat (first | (refine lin_take ?_ (by rfl) (fun wx hx => ?_) ?_; rotate_left; go_simp; (with_reducible rfl); try simp only [Act.put, List.setIfInBounds_toArray, List.set_cons_zero, List.set_cons_succ]) | (refine lin_skip (by rfl) ?_; try simp only [Act.put, List.setIfInBounds_toArray, List.set_cons_zero, List.set_cons_succ]) | (refine lin_take3 ?_ (by rfl) (fun wx hx => ?_) ?_; rotate_left; go_simp; (with_reducible rfl); try simp only [Act.put, List.setIfInBounds_toArray, List.set_cons_zero, List.set_cons_succ]) | (refine lin_skip3 (by rfl) ?_; try simp only [Act.put, List.setIfInBounds_toArray, List.set_cons_zero, List.set_cons_succ]))
                              refine lin_run (by rfl) (fun KC hK => ?_)
                              go_simp
                              refine (rnumber_any (some ⟨g, o + Wh, none⟩) 8 _ _ wd (HP8.out.ext hwd) (by decide)).mono ?_
                              rintro e w7 ⟨rfl, rfl⟩
                              rw [Hnu.out]
                              refine hK _ _ hwd ?_
                              clear hK
                              try simp only [Act.put, List.setIfInBounds_toArray, List.set_cons_zero, List.set_cons_succ]
                              refine lin_run (by rfl) (fun KC hK => ?_)
                              go_simp
                              refine (rsum_any Z (some ⟨g, o, none⟩) Wh _ _ wd (HPs.out.ext hwd) (by omega)).mono ?_
                              rintro e w7 ⟨rfl, rfl⟩
                              rw [Hsu.out]
                              refine hK _ _ hwd ?_
                              clear hK
                              try simp only [Act.put, List.setIfInBounds_toArray, List.set_cons_zero, List.set_cons_succ]
                              have hwd5 := HX4.out.trans hwd
                              by_cases hns : nu = su
                              · have b2 : ((nu : Int) == (su : Int)) = true := by rw [hns]; simp
                                have HF2 : Hid (F = .item We ⟨P, K, D⟩) := Lib.hid (by rw [← HF3.out, fi10 H1.out H2.out HN.out H3.out H4.out H5.out H6.out HMm.out H7.out H8.out (by rw [HWh.out, Hnu.out, Hsu.out]; exact hns), HPP.out, HK.out, HD.out, HWe.out])
                                clear hns
                                repeat (first | (refine lin_take ?_ (by rfl) (fun wx hx => ?_) ?_; rotate_left; go_simp; (with_reducible rfl); try simp only [Act.put, List.setIfInBounds_toArray, List.set_cons_zero, List.set_cons_succ]) | (refine lin_skip (by rfl) ?_; try simp only [Act.put, List.setIfInBounds_toArray, List.set_cons_zero, List.set_cons_succ]) | (refine lin_take3 ?_ (by rfl) (fun wx hx => ?_) ?_; rotate_left; go_simp; (with_reducible rfl); try simp only [Act.put, List.setIfInBounds_toArray, List.set_cons_zero, List.set_cons_succ]) | (refine lin_skip3 (by rfl) ?_; try simp only [Act.put, List.setIfInBounds_toArray, List.set_cons_zero, List.set_cons_succ]))
                                refine lin_nil ?_
                                have HPD5 := Lib.hid (HPD.out.ext hwd)
                                have Hwd5 := Lib.hid hwd5
                                clear sA sB hwd hwd5 hxd
                                have HOe : Hid (Own (wd.alloc (.cells #[] 5)) 5 1 (.slice (some ⟨wd.heap.size, 0, none⟩) 0 0) 0 []) := Lib.hid ⟨rfl, .inr ⟨wd.heap.size, 0, 0, #[], rfl, heap_alloc_new wd _, Nat.le_refl _, by unfold maxLen; omega, by simp, rfl⟩⟩
                                have hxe : Ext wd (wd.alloc (.cells #[] 5)) := (Ext.refl _).alloc _
                                have HPDx := Lib.hid (HPD5.out.ext hxe)
                                have HXe := Lib.hid hxe
                                have hsd : w0.heap.size ≤ wd.heap.size := Hwd5.out.size
                                obtain ⟨i5, hi5, hz5, hsz5, hby5⟩ := info_parts Tryd.info5
                                clear hxe HPD5
                                go_wp2_with (at_builtin; refine wpList_append_own_any _ rfl (.tmp 173) (.tmp 181) 26 rfl 5 i5 _ 1 1 Tryd.underlying26 hi5 hz5 hsz5 hby5 rfl (by decide) (.slice (some ⟨wd.heap.size, 0, none⟩) 0 0) 0 [] rfl HOe.out (some ⟨g, o + M13, none⟩) M (C - M13) (u8v D) rfl (by rw [u8v_len, HDl.out, Nat.mul_one]) HPDx.out.news (u8v_one D) (by unfold maxLen; omega) (by omega) ?_)
                                intro v' w8 ho hgr hv'
                                have hm8 : Mod (fun k => some wd.heap.size = some k) (wd.alloc (.cells #[] 5)) w8 := (Mod.refl _ _).grown hgr (fun k e _ => e)
                                have hx8 : Ext wd w8 := Mod.trans HXe.out hm8 (fun i hi e => by injection e with e; omega)
                                have hx08 : Ext w0 w8 := Hwd5.out.trans hx8
                                have HO8 : Hid (Own w8 5 1 v' M (u8v D)) := Lib.hid (by simpa using ho)
                                have HV : Hid (∀ k, v'.ownBlock = some k → w.heap.size + 1 ≤ k) := Lib.hid (fun k hk => by
                                  rcases hv' with h | h
                                  · rw [h] at hk
                                    have hk2 : some wd.heap.size = some k := hk
                                    injection hk2 with hk2; omega
                                  · rw [h] at hk
                                    have e : (wd.alloc (.cells #[] 5)).heap.size = wd.heap.size + 1 := by simp
                                    injection hk with hk; omega)
                                obtain ⟨D', dc, rfl, -, -⟩ := HO8.out.form
                                have HZ := Lib.hid ((Mod.block hx08 _ hs0 (fun f => f)).trans HZ0.out)
                                have hz := fun i => cell_of_row _ _ i _ 70 (0, 0) HZ.out
                                have hz0 := hz 0
                                have hz1 := hz 1
                                have hz2 := hz 2
                                have hz3 := hz 3
                                have hz4 := hz 4
                                have hz5' := hz 5
                                simp only [List.getElem?_toArray, List.getElem?_cons_zero, List.getElem?_cons_succ] at hz0 hz1 hz2 hz3 hz4 hz5'
                                have hzf : ∀ o, w8.frozen? ⟨w.heap.size, o, none⟩ = false := fun o => by simp [World.frozen?, HZ.out]
                                have zf0 := hzf 0
                                have zf1 := hzf 1
                                have zf2 := hzf 2
                                have zf3 := hzf 3
                                have zf4 := hzf 4
                                have zf5 := hzf 5
                                have HX08 := Lib.hid hx08
                                clear hzf hz ho hgr hv' hm8 hx8 hx08
                                go_wp2_with fail
                                obtain ⟨hx9, hc9⟩ := row6 HZ.out (.int .i64 (We : Int)) (.bool true) (.string (mkB P)) (.int .i8 K) (.slice D' M dc) (.bool false) (HX0.out.trans HX08.out) (Nat.le_refl _)
                                have q0 := hc9 0
                                have q1 := hc9 1
                                have q2 := hc9 2
                                have q3 := hc9 3
                                have q4 := hc9 4
                                have q5 := hc9 5
                                simp only [List.getElem?_toArray, List.getElem?_cons_zero, List.getElem?_cons_succ] at q0 q1 q2 q3 q4 q5
                                have HO9 : Own ((((((w8.setCell ⟨w.heap.size, 0, none⟩ (.int .i64 (We : Int))).setCell ⟨w.heap.size, 1, none⟩ (.bool true)).setCell ⟨w.heap.size, 2, none⟩ (.string (mkB P))).setCell ⟨w.heap.size, 3, none⟩ (.int .i8 K)).setCell ⟨w.heap.size, 4, none⟩ (.slice D' M dc)).setCell ⟨w.heap.size, 5, none⟩ (.bool false)) 5 1 (.slice D' M dc) M (u8v D) := HO8.out.mod (S := fun k => k = w.heap.size) (by
                                  repeat (refine Mod.setCell ?_ _ _ (fun _ => rfl))
                                  exact Mod.refl _ _) (fun k hk e => by have := HV.out k hk; omega)
                                exact bodyPost_ret (v := nextV (We : Int) true (mkB P) K (.slice D' M dc) false) (by simp [results, Tryd.results40, go_sem, q0, q1, q2, q3, q4, q5, nextV]) rfl (by
                                  rw [HF2.out]
                                  refine ⟨D', dc, by show _ = Ending.returned (nextV (We : Int) true (mkB P) K (.slice D' D.length dc) false); rw [HDl.out], hx9, ?_, fun k hk => ?_⟩
                                  · show Own _ 5 1 (.slice D' D.length dc) D.length (u8v D)
                                    rw [HDl.out]; exact HO9
                                  · have hk2 : (Value.slice D' D.length dc).ownBlock = some k := hk
                                    rw [HDl.out] at hk2
                                    have := HV.out k hk2; omega)
                              · have b2 : ((nu : Int) == (su : Int)) = false := beq_eq_false_iff_ne.2 (by omega)
                                have HF2 : Hid (F = .bad) := Lib.hid (by rw [← HF3.out]; exact fi9 H1.out H2.out HN.out H3.out H4.out H5.out H6.out HMm.out H7.out H8.out (by rw [HWh.out, Hnu.out, Hsu.out]; exact hns))
                                clear hns
                                repeat (first | (refine lin_take ?_ (by rfl) (fun wx hx => ?_) ?_; rotate_left; go_simp; (with_reducible rfl); try simp only [Act.put, List.setIfInBounds_toArray, List.set_cons_zero, List.set_cons_succ]) | (refine lin_skip (by rfl) ?_; try simp only [Act.put, List.setIfInBounds_toArray, List.set_cons_zero, List.set_cons_succ]) | (refine lin_take3 ?_ (by rfl) (fun wx hx => ?_) ?_; rotate_left; go_simp; (with_reducible rfl); try simp only [Act.put, List.setIfInBounds_toArray, List.set_cons_zero, List.set_cons_succ]) | (refine lin_skip3 (by rfl) ?_; try simp only [Act.put, List.setIfInBounds_toArray, List.set_cons_zero, List.set_cons_succ]))
                                refine lin_nil ?_
                                clear sA sB sC
                                have HZ := Lib.hid ((Mod.block hwd5 _ hs0 (fun f => f)).trans HZ0.out)
                                have hz := fun i => cell_of_row _ _ i _ 70 (0, 0) HZ.out
                                have hz0 := hz 0
                                have hz1 := hz 1
                                have hz2 := hz 2
                                have hz3 := hz 3
                                have hz4 := hz 4
                                have hz5 := hz 5
                                simp only [List.getElem?_toArray, List.getElem?_cons_zero, List.getElem?_cons_succ] at hz0 hz1 hz2 hz3 hz4 hz5
                                have hzf : ∀ o, wd.frozen? ⟨w.heap.size, o, none⟩ = false := fun o => by simp [World.frozen?, HZ.out]
                                have zf0 := hzf 0
                                have zf1 := hzf 1
                                have zf2 := hzf 2
                                have zf3 := hzf 3
                                have zf4 := hzf 4
                                have zf5 := hzf 5
                                clear hzf hz
                                (go_wp2_with fail) <;> (try (exfalso; omega))
                                obtain ⟨hx9, hc9⟩ := row6 HZ.out (.int .i64 0) (.bool false) (.string ⟨#[]⟩) (.int .i8 0) (.slice none 0 0) (.bool true) (HX0.out.trans hwd5) (Nat.le_refl _)
                                have q0 := hc9 0
                                have q1 := hc9 1
                                have q2 := hc9 2
                                have q3 := hc9 3
                                have q4 := hc9 4
                                have q5 := hc9 5
                                simp only [List.getElem?_toArray, List.getElem?_cons_zero, List.getElem?_cons_succ] at q0 q1 q2 q3 q4 q5
                                exact bodyPost_ret (v := nextV 0 false ⟨#[]⟩ 0 (.slice none 0 0) true) (by simp [results, Tryd.results40, go_sem, q0, q1, q2, q3, q4, q5, nextV]) rfl (by rw [HF2.out]; exact ⟨rfl, hx9⟩)
                      · have v2 : decide ((4194304 : Int) < (M : Int)) = true := decide_eq_true (by omega)
                        have HF2 : Hid (F = .bad) := Lib.hid (by rw [← HF3.out]; exact fi7 H1.out H2.out HN.out H3.out H4.out H5.out H6.out HMm.out (fun h => u2 (hHl.1 (by have := h.2; rwa [HK.out] at this)).1))
                        clear hHl
                        have HZ := Lib.hid ((Mod.block hwd4 _ hs0 (fun f => f)).trans HZ0.out)
                        have hz := fun i => cell_of_row _ _ i _ 70 (0, 0) HZ.out
                        have hz0 := hz 0
                        have hz1 := hz 1
                        have hz2 := hz 2
                        have hz3 := hz 3
                        have hz4 := hz 4
                        have hz5 := hz 5
                        simp only [List.getElem?_toArray, List.getElem?_cons_zero, List.getElem?_cons_succ] at hz0 hz1 hz2 hz3 hz4 hz5
                        have hzf : ∀ o, w4.frozen? ⟨w.heap.size, o, none⟩ = false := fun o => by simp [World.frozen?, HZ.out]
                        have zf0 := hzf 0
                        have zf1 := hzf 1
                        have zf2 := hzf 2
                        have zf3 := hzf 3
                        have zf4 := hzf 4
                        have zf5 := hzf 5
                        clear hzf hz
                        (go_wp2_with fail) <;> (try (exfalso; omega))
                        obtain ⟨hx9, hc9⟩ := row6 HZ.out (.int .i64 0) (.bool false) (.string ⟨#[]⟩) (.int .i8 0) (.slice none 0 0) (.bool true) (HX0.out.trans hwd4) (Nat.le_refl _)
                        have q0 := hc9 0
                        have q1 := hc9 1
                        have q2 := hc9 2
                        have q3 := hc9 3
                        have q4 := hc9 4
                        have q5 := hc9 5
                        simp only [List.getElem?_toArray, List.getElem?_cons_zero, List.getElem?_cons_succ] at q0 q1 q2 q3 q4 q5
                        exact bodyPost_ret (v := nextV 0 false ⟨#[]⟩ 0 (.slice none 0 0) true) (by simp [results, Tryd.results40, go_sem, q0, q1, q2, q3, q4, q5, nextV]) rfl (by rw [HF2.out]; exact ⟨rfl, hx9⟩)
                    · have v1 : (((M : Int) + (M' : Int)) == 4294967295) = false := beq_eq_false_iff_ne.2 (by omega)
                      have HF2 : Hid (F = .bad) := Lib.hid (by rw [← HF3.out]; exact fi7 H1.out H2.out HN.out H3.out H4.out H5.out H6.out HMm.out (fun h => u1 (by rw [← HMm'.out]; exact h.1)))
                      clear hHl
                      have HZ := Lib.hid ((Mod.block hwd4 _ hs0 (fun f => f)).trans HZ0.out)
                      have hz := fun i => cell_of_row _ _ i _ 70 (0, 0) HZ.out
                      have hz0 := hz 0
                      have hz1 := hz 1
                      have hz2 := hz 2
                      have hz3 := hz 3
                      have hz4 := hz 4
                      have hz5 := hz 5
                      simp only [List.getElem?_toArray, List.getElem?_cons_zero, List.getElem?_cons_succ] at hz0 hz1 hz2 hz3 hz4 hz5
                      have hzf : ∀ o, w4.frozen? ⟨w.heap.size, o, none⟩ = false := fun o => by simp [World.frozen?, HZ.out]
                      have zf0 := hzf 0
                      have zf1 := hzf 1
                      have zf2 := hzf 2
                      have zf3 := hzf 3
                      have zf4 := hzf 4
                      have zf5 := hzf 5
                      clear hzf hz
                      (go_wp2_with fail) <;> (try (exfalso; omega))
                      obtain ⟨hx9, hc9⟩ := row6 HZ.out (.int .i64 0) (.bool false) (.string ⟨#[]⟩) (.int .i8 0) (.slice none 0 0) (.bool true) (HX0.out.trans hwd4) (Nat.le_refl _)
                      have q0 := hc9 0
                      have q1 := hc9 1
                      have q2 := hc9 2
                      have q3 := hc9 3
                      have q4 := hc9 4
                      have q5 := hc9 5
                      simp only [List.getElem?_toArray, List.getElem?_cons_zero, List.getElem?_cons_succ] at q0 q1 q2 q3 q4 q5
                      exact bodyPost_ret (v := nextV 0 false ⟨#[]⟩ 0 (.slice none 0 0) true) (by simp [results, Tryd.results40, go_sem, q0, q1, q2, q3, q4, q5, nextV]) rfl (by rw [HF2.out]; exact ⟨rfl, hx9⟩)
              · have HF2 : Hid (F = .bad) := Lib.hid (by rw [← HF3.out]; exact fi5 H1.out H2.out HN.out H3.out H4.out (by rw [hZ, HPP.out]; simpa using hgd))
                clear s5' cv
                cases hoc : okC P with
                | false =>
                  clear hgd hoa hoc hwd hxd hx4
                  have HZ := Lib.hid ((Mod.block hwd4 _ hs0 (fun f => f)).trans HZ0.out)
                  have hz := fun i => cell_of_row _ _ i _ 70 (0, 0) HZ.out
                  have hz0 := hz 0
                  have hz1 := hz 1
                  have hz2 := hz 2
                  have hz3 := hz 3
                  have hz4 := hz 4
                  have hz5 := hz 5
                  simp only [List.getElem?_toArray, List.getElem?_cons_zero, List.getElem?_cons_succ] at hz0 hz1 hz2 hz3 hz4 hz5
                  have hzf : ∀ o, w4.frozen? ⟨w.heap.size, o, none⟩ = false := fun o => by simp [World.frozen?, HZ.out]
                  have zf0 := hzf 0
                  have zf1 := hzf 1
                  have zf2 := hzf 2
                  have zf3 := hzf 3
                  have zf4 := hzf 4
                  have zf5 := hzf 5
                  clear hzf hz
                  go_wp2_with fail
                  obtain ⟨hx9, hc9⟩ := row6 HZ.out (.int .i64 0) (.bool false) (.string ⟨#[]⟩) (.int .i8 0) (.slice none 0 0) (.bool true) (HX0.out.trans hwd4) (Nat.le_refl _)
                  have q0 := hc9 0
                  have q1 := hc9 1
                  have q2 := hc9 2
                  have q3 := hc9 3
                  have q4 := hc9 4
                  have q5 := hc9 5
                  simp only [List.getElem?_toArray, List.getElem?_cons_zero, List.getElem?_cons_succ] at q0 q1 q2 q3 q4 q5
                  exact bodyPost_ret (v := nextV 0 false ⟨#[]⟩ 0 (.slice none 0 0) true) (by simp [results, Tryd.results40, go_sem, q0, q1, q2, q3, q4, q5, nextV]) rfl (by rw [HF2.out]; exact ⟨rfl, hx9⟩)
                | true =>
                  have hbh : behind P a = false := by
                    rw [hoa, hoc, Bool.true_and] at hgd
                    simpa using hgd
                  have ht0 : 0 < t := by
                    rcases Nat.eq_zero_or_pos t with h | h
                    · rw [Hta.out h, behind_nil hoc] at hbh; cases hbh
                    · exact h
                  have kt : (0 : Int) < (t : Int) := by omega
                  obtain ⟨le, hle⟩ : ∃ le, (Op.bytesLess (mkB P).toList (mkB a).toList || (mkB P).toList == (mkB a).toList) = le := ⟨_, rfl⟩
                  have hlf : le = true := by
                    rw [← hle, mkB_list, mkB_list]; unfold behind at hbh
                    cases h1 : Op.bytesLess P a <;> cases h2 : P == a <;> simp [h1, h2] at hbh ⊢
                  subst hlf
                  clear hgd hoa hoc hbh hwd hxd hx4
                  have HZ := Lib.hid ((Mod.block hwd4 _ hs0 (fun f => f)).trans HZ0.out)
                  have hz := fun i => cell_of_row _ _ i _ 70 (0, 0) HZ.out
                  have hz0 := hz 0
                  have hz1 := hz 1
                  have hz2 := hz 2
                  have hz3 := hz 3
                  have hz4 := hz 4
                  have hz5 := hz 5
                  simp only [List.getElem?_toArray, List.getElem?_cons_zero, List.getElem?_cons_succ] at hz0 hz1 hz2 hz3 hz4 hz5
                  have hzf : ∀ o, w4.frozen? ⟨w.heap.size, o, none⟩ = false := fun o => by simp [World.frozen?, HZ.out]
                  have zf0 := hzf 0
                  have zf1 := hzf 1
                  have zf2 := hzf 2
                  have zf3 := hzf 3
                  have zf4 := hzf 4
                  have zf5 := hzf 5
                  clear hzf hz
                  go_wp2_with fail
                  obtain ⟨hx9, hc9⟩ := row6 HZ.out (.int .i64 0) (.bool false) (.string ⟨#[]⟩) (.int .i8 0) (.slice none 0 0) (.bool true) (HX0.out.trans hwd4) (Nat.le_refl _)
                  have q0 := hc9 0
                  have q1 := hc9 1
                  have q2 := hc9 2
                  have q3 := hc9 3
                  have q4 := hc9 4
                  have q5 := hc9 5
                  simp only [List.getElem?_toArray, List.getElem?_cons_zero, List.getElem?_cons_succ] at q0 q1 q2 q3 q4 q5
                  exact bodyPost_ret (v := nextV 0 false ⟨#[]⟩ 0 (.slice none 0 0) true) (by simp [results, Tryd.results40, go_sem, q0, q1, q2, q3, q4, q5, nextV]) rfl (by rw [HF2.out]; exact ⟨rfl, hx9⟩)
          · have HF2 : Hid (F = .bad) := Lib.hid (by rw [← HF3.out]; exact fi3 H1.out H2.out HN.out (fun h => hbd ⟨by rw [← HN'.out]; exact h.1, h.2⟩))
            clear s13 s35
            by_cases q1 : N + N' = 65535
            · have e4 : (((N : Int) + (N' : Int)) == 65535) = true := by rw [beq_iff_eq]; omega
              by_cases q2 : 1 ≤ N
              · have e5 : ¬ ((N : Int) < 1) := by omega
                have e6 : (4096 : Int) < (N : Int) := by omega
                clear hbd
                have HZ := Lib.hid ((Mod.block hwd _ hs0 (fun f => f)).trans HZ0.out)
                have hz := fun i => cell_of_row _ _ i _ 70 (0, 0) HZ.out
                have hz0 := hz 0
                have hz1 := hz 1
                have hz2 := hz 2
                have hz3 := hz 3
                have hz4 := hz 4
                have hz5 := hz 5
                simp only [List.getElem?_toArray, List.getElem?_cons_zero, List.getElem?_cons_succ] at hz0 hz1 hz2 hz3 hz4 hz5
                have hzf : ∀ o, wd.frozen? ⟨w.heap.size, o, none⟩ = false := fun o => by simp [World.frozen?, HZ.out]
                have zf0 := hzf 0
                have zf1 := hzf 1
                have zf2 := hzf 2
                have zf3 := hzf 3
                have zf4 := hzf 4
                have zf5 := hzf 5
                clear hzf hz
                go_wp2_with fail
                obtain ⟨hx9, hc9⟩ := row6 HZ.out (.int .i64 0) (.bool false) (.string ⟨#[]⟩) (.int .i8 0) (.slice none 0 0) (.bool true) (HX0.out.trans hwd) (Nat.le_refl _)
                have q0 := hc9 0
                have q1 := hc9 1
                have q2 := hc9 2
                have q3 := hc9 3
                have q4 := hc9 4
                have q5 := hc9 5
                simp only [List.getElem?_toArray, List.getElem?_cons_zero, List.getElem?_cons_succ] at q0 q1 q2 q3 q4 q5
                exact bodyPost_ret (v := nextV 0 false ⟨#[]⟩ 0 (.slice none 0 0) true) (by simp [results, Tryd.results40, go_sem, q0, q1, q2, q3, q4, q5, nextV]) rfl (by rw [HF2.out]; exact ⟨rfl, hx9⟩)
              · have e5 : (N : Int) < 1 := by omega
                clear hbd
                have HZ := Lib.hid ((Mod.block hwd _ hs0 (fun f => f)).trans HZ0.out)
                have hz := fun i => cell_of_row _ _ i _ 70 (0, 0) HZ.out
                have hz0 := hz 0
                have hz1 := hz 1
                have hz2 := hz 2
                have hz3 := hz 3
                have hz4 := hz 4
                have hz5 := hz 5
                simp only [List.getElem?_toArray, List.getElem?_cons_zero, List.getElem?_cons_succ] at hz0 hz1 hz2 hz3 hz4 hz5
                have hzf : ∀ o, wd.frozen? ⟨w.heap.size, o, none⟩ = false := fun o => by simp [World.frozen?, HZ.out]
                have zf0 := hzf 0
                have zf1 := hzf 1
                have zf2 := hzf 2
                have zf3 := hzf 3
                have zf4 := hzf 4
                have zf5 := hzf 5
                clear hzf hz
                go_wp2_with fail
                obtain ⟨hx9, hc9⟩ := row6 HZ.out (.int .i64 0) (.bool false) (.string ⟨#[]⟩) (.int .i8 0) (.slice none 0 0) (.bool true) (HX0.out.trans hwd) (Nat.le_refl _)
                have q0 := hc9 0
                have q1 := hc9 1
                have q2 := hc9 2
                have q3 := hc9 3
                have q4 := hc9 4
                have q5 := hc9 5
                simp only [List.getElem?_toArray, List.getElem?_cons_zero, List.getElem?_cons_succ] at q0 q1 q2 q3 q4 q5
                exact bodyPost_ret (v := nextV 0 false ⟨#[]⟩ 0 (.slice none 0 0) true) (by simp [results, Tryd.results40, go_sem, q0, q1, q2, q3, q4, q5, nextV]) rfl (by rw [HF2.out]; exact ⟨rfl, hx9⟩)
            · have e4 : (((N : Int) + (N' : Int)) == 65535) = false := beq_eq_false_iff_ne.2 (by omega)
              clear hbd
              have HZ := Lib.hid ((Mod.block hwd _ hs0 (fun f => f)).trans HZ0.out)
              have hz := fun i => cell_of_row _ _ i _ 70 (0, 0) HZ.out
              have hz0 := hz 0
              have hz1 := hz 1
              have hz2 := hz 2
              have hz3 := hz 3
              have hz4 := hz 4
              have hz5 := hz 5
              simp only [List.getElem?_toArray, List.getElem?_cons_zero, List.getElem?_cons_succ] at hz0 hz1 hz2 hz3 hz4 hz5
              have hzf : ∀ o, wd.frozen? ⟨w.heap.size, o, none⟩ = false := fun o => by simp [World.frozen?, HZ.out]
              have zf0 := hzf 0
              have zf1 := hzf 1
              have zf2 := hzf 2
              have zf3 := hzf 3
              have zf4 := hzf 4
              have zf5 := hzf 5
              clear hzf hz
              go_wp2_with fail
              obtain ⟨hx9, hc9⟩ := row6 HZ.out (.int .i64 0) (.bool false) (.string ⟨#[]⟩) (.int .i8 0) (.slice none 0 0) (.bool true) (HX0.out.trans hwd) (Nat.le_refl _)
              have q0 := hc9 0
              have q1 := hc9 1
              have q2 := hc9 2
              have q3 := hc9 3
              have q4 := hc9 4
              have q5 := hc9 5
              simp only [List.getElem?_toArray, List.getElem?_cons_zero, List.getElem?_cons_succ] at q0 q1 q2 q3 q4 q5
              exact bodyPost_ret (v := nextV 0 false ⟨#[]⟩ 0 (.slice none 0 0) true) (by simp [results, Tryd.results40, go_sem, q0, q1, q2, q3, q4, q5, nextV]) rfl (by rw [HF2.out]; exact ⟨rfl, hx9⟩)
end Go.Proofs.YtcpnnkkfndgpjaaDoor
