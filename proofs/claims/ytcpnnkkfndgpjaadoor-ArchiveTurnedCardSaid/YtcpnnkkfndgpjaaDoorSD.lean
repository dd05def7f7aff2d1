/- A length that is told twice. -/
import Derived.Test.YtcpnnkkfndgpjaaDoorSC
namespace Go.Proofs.YtcpnnkkfndgpjaaDoor
open Go.RowKit

def AgainPost (K a least : Nat) (most : Int) (b : Bs) (w : World) (e : Ending) (w' : World) : Prop :=
  Ext w w' ∧ (if b.length < a + 2 * K then e = .returned (.tuple #[.int .i64 0, .bool false])
    else if numL ((b.drop a).take K) + numL ((b.drop (a + K)).take K) = 256 ^ K - 1 ∧ least ≤ numL ((b.drop a).take K) ∧ (numL ((b.drop a).take K) : Int) ≤ most then e = .returned (.tuple #[.int .i64 (numL ((b.drop a).take K) : Int), .bool true])
    else e = tornV)
theorem AgainPost.short {K a least : Nat} {most : Int} {b : Bs} {w w' : World} (hx : Ext w w') (h : b.length < a + 2 * K) : AgainPost K a least most b w (.returned (.tuple #[.int .i64 0, .bool false])) w' := ⟨hx, by rw [if_pos h]⟩
theorem AgainPost.good {K a least : Nat} {most : Int} {b : Bs} {w w' : World} {N : Nat} (hx : Ext w w') (h : ¬ b.length < a + 2 * K) (hN : numL ((b.drop a).take K) = N) (h2 : N + numL ((b.drop (a + K)).take K) = 256 ^ K - 1 ∧ least ≤ N ∧ (N : Int) ≤ most) : AgainPost K a least most b w (.returned (.tuple #[.int .i64 (N : Int), .bool true])) w' := ⟨hx, by rw [if_neg h, hN, if_pos h2]⟩
theorem AgainPost.bad {K a least : Nat} {most : Int} {b : Bs} {w w' : World} {N : Nat} (hx : Ext w w') (h : ¬ b.length < a + 2 * K) (hN : numL ((b.drop a).take K) = N) (h2 : ¬ (N + numL ((b.drop (a + K)).take K) = 256 ^ K - 1 ∧ least ≤ N ∧ (N : Int) ≤ most)) : AgainPost K a least most b w tornV w' := ⟨hx, by rw [if_neg h, hN, if_neg h2]⟩

set_option maxRecDepth 20000 in
set_option maxHeartbeats 1000000 in
theorem again_any (r : Nat) (A : Option Addr) (n c : Nat) (x : Rd) (torn : Bool) (K a least : Nat) (most : Int) (w : World) (hr : RdAt w r A n c x torn) (hn : n ≤ 1073741824) (hK : K = 2 ∨ K = 4) (ha : a ≤ 5000) (hl : least ≤ 1) (hm0 : 0 ≤ most) (hm1 : most ≤ 4194304) :
    Calls Tryd.prog 56 #[.pointer (some ⟨r, 0, none⟩), .int .i64 (a : Int), .int .i64 (K : Int), .int .i64 (least : Int), .int .i64 most] w (AgainPost K a least most x.b w) := by
  have HR := Lib.hid hr
  obtain ⟨d0, -, -, -, -, -, -, -⟩ := hr.cells
  have hlen := hr.len
  by_cases hsh : n < a + 2 * K
  · have Hsh : Hid (x.b.length < a + 2 * K) := Lib.hid (by omega)
    clear hr hlen
    rcases hK with rfl | rfl
    all_goals
      go_enter Tryd.func56, Tryd.ntmps56
      go_wp2_with fail
      go_ret2
      exact AgainPost.short (Ext.refl _) Hsh.out
  obtain ⟨g, off, rfl, hg⟩ : ∃ g off, A = some ⟨g, off, none⟩ ∧ g < w.heap.size := by obtain ⟨A', cap, hv, -, hp⟩ := hr.own.form; injection hv with h1; subst h1; exact hp (by omega)
  have hnc : n ≤ c := by obtain ⟨_, _, hv, h2, -⟩ := hr.own.form; injection hv with _ _ h3; omega
  have Hsh : Hid (¬ x.b.length < a + 2 * K) := Lib.hid (by omega)
  have HP : Hid (BySl w (some ⟨g, off + a, none⟩) K ((x.b.drop a).take K)) := Lib.hid (hr.bytes.part (by omega))
  have HP2 : Hid (BySl w (some ⟨g, off + a + K, none⟩) K ((x.b.drop (a + K)).take K)) := Lib.hid (by have := hr.bytes.part (i := a + K) (k := K) (by omega); rwa [← Nat.add_assoc] at this)
  obtain ⟨N, hN⟩ : ∃ N, numL ((x.b.drop a).take K) = N := ⟨_, rfl⟩
  obtain ⟨N', hN'⟩ : ∃ N, numL ((x.b.drop (a + K)).take K) = N := ⟨_, rfl⟩
  have hlt : ∀ l : Bs, numL (l.take K) ≤ 4294967295 := fun l => by
    have h1 := numL_lt (l.take K)
    have h2 : 256 ^ (l.take K).length ≤ 256 ^ 4 := Nat.pow_le_pow_right (by decide) (by simp; omega)
    omega
  have b1 := hlt (x.b.drop a)
  have b2 := hlt (x.b.drop (a + K))
  rw [hN] at b1
  rw [hN'] at b2
  have HN := Lib.hid hN
  have HN' := Lib.hid hN'
  have w1 : IntKind.u64.wrap 65536 = 65536 := by decide
  have w2 : IntKind.u64.wrap 4294967296 = 4294967296 := by decide
  have w3 : IntKind.u64.wrap 65535 = 65535 := by decide
  have w4 : IntKind.u64.wrap 4294967295 = 4294967295 := by decide
  have w5 : IntKind.i64.wrap 16 = 16 := by decide
  have w6 : IntKind.i64.wrap 32 = 32 := by decide
  have w7 : IntKind.u64.wrap ((N : Int) + (N' : Int)) = (N : Int) + (N' : Int) := IntWalk.u64_in _ (by omega)
  have w8 : IntKind.u64.wrap most = most := IntWalk.u64_in _ (by omega)
  have w9 : IntKind.u64.wrap (least : Int) = (least : Int) := IntWalk.u64_in _ (by omega)
  clear hr hlen hlt hN hN'
  rcases hK with rfl | rfl
  · go_enter Tryd.func56, Tryd.ntmps56
    go_wp2_with fail
    refine (number_any _ _ _ _ w HP.out (by decide)).mono ?_
    rintro e w' ⟨rfl, rfl⟩
    rw [HN.out]
    go_wp2_with fail
    refine region_lin (fun wx => Ext w wx) 23 [(0, 3), (1, 3), (2, 3), (3, 3), (6, 3), (7, 3), (8, 3), (9, 3), (4, 1), (5, 3), (10, 3), (11, 3), (12, 3), (13, 3), (14, 3), (15, 3), (16, 3), (17, 3), (18, 3), (19, 3), (20, 3), (21, 3), (22, 3), (23, 2)] ?_ (by kernel_rfl) (by kernel_rfl) ?_ (fun _ _ _ _ _ h => h) ((Ext.refl _).drew) ?_
    rotate_left
    (simp only [planOps, List.mapM_cons, List.mapM_nil, List.getElem?_toArray, List.getElem?_cons_zero, List.getElem?_cons_succ, Option.map_some, Option.bind_eq_bind, Option.bind_some, Option.pure_def]; rfl)
    intro wd hwd hxd
    repeat (first | (refine lin_take ?_ (by rfl) (fun wx hx => ?_) ?_; rotate_left; go_simp; (with_reducible rfl); try simp only [Act.put, List.setIfInBounds_toArray, List.set_cons_zero, List.set_cons_succ]) | (refine lin_skip (by rfl) ?_; try simp only [Act.put, List.setIfInBounds_toArray, List.set_cons_zero, List.set_cons_succ]) | (refine lin_take3 ?_ (by rfl) (fun wx hx => ?_) ?_; rotate_left; go_simp; (with_reducible rfl); try simp only [Act.put, List.setIfInBounds_toArray, List.set_cons_zero, List.set_cons_succ]) | (refine lin_skip3 (by rfl) ?_; try simp only [Act.put, List.setIfInBounds_toArray, List.set_cons_zero, List.set_cons_succ]))
    refine lin_run (by rfl) (fun K hK => ?_)
    go_simp
    refine (number_any _ _ _ _ wd (HP2.out.ext hwd) (by decide)).mono ?_
    rintro e w' ⟨rfl, rfl⟩
    rw [HN'.out]
    refine hK _ _ hwd ?_
    clear hK
    try simp only [Act.put, List.setIfInBounds_toArray, List.set_cons_zero, List.set_cons_succ]
    have HD := Lib.hid hwd
    clear hwd hxd
    cases k1 : ((N : Int) + (N' : Int) == 65535) with
    | false =>
      have Hc : Hid (¬ (N + N' = 65535 ∧ least ≤ N ∧ (N : Int) ≤ most)) := Lib.hid (fun h => by have e := h.1; rw [beq_eq_false_iff_ne] at k1; omega)
      repeat (first | (refine lin_take ?_ (by rfl) (fun wx hx => ?_) ?_; rotate_left; go_simp; (with_reducible rfl); try simp only [Act.put, List.setIfInBounds_toArray, List.set_cons_zero, List.set_cons_succ]) | (refine lin_skip (by rfl) ?_; try simp only [Act.put, List.setIfInBounds_toArray, List.set_cons_zero, List.set_cons_succ]) | (refine lin_take3 ?_ (by rfl) (fun wx hx => ?_) ?_; rotate_left; go_simp; (with_reducible rfl); try simp only [Act.put, List.setIfInBounds_toArray, List.set_cons_zero, List.set_cons_succ]) | (refine lin_skip3 (by rfl) ?_; try simp only [Act.put, List.setIfInBounds_toArray, List.set_cons_zero, List.set_cons_succ]))
      refine lin_last (by rfl) (fun K hK => ?_)
      go_simp
      refine (must_no _).mono ?_
      rintro e w' ⟨rfl, rfl⟩
      exact ⟨rfl, AgainPost.bad HD.out Hsh.out HN.out (by rw [HN'.out]; exact Hc.out)⟩
    | true =>
      by_cases k2 : least ≤ N
      · by_cases k3 : (N : Int) ≤ most
        · have Hc : Hid (N + N' = 65535 ∧ least ≤ N ∧ (N : Int) ≤ most) := Lib.hid ⟨by rw [beq_iff_eq] at k1; omega, k2, k3⟩
          have k4 : decide (least ≤ N) = true := decide_eq_true k2
          have k5 : decide ((N : Int) ≤ most) = true := decide_eq_true k3
          repeat (first | (refine lin_take ?_ (by rfl) (fun wx hx => ?_) ?_; rotate_left; go_simp; (with_reducible rfl); try simp only [Act.put, List.setIfInBounds_toArray, List.set_cons_zero, List.set_cons_succ]) | (refine lin_skip (by rfl) ?_; try simp only [Act.put, List.setIfInBounds_toArray, List.set_cons_zero, List.set_cons_succ]) | (refine lin_take3 ?_ (by rfl) (fun wx hx => ?_) ?_; rotate_left; go_simp; (with_reducible rfl); try simp only [Act.put, List.setIfInBounds_toArray, List.set_cons_zero, List.set_cons_succ]) | (refine lin_skip3 (by rfl) ?_; try simp only [Act.put, List.setIfInBounds_toArray, List.set_cons_zero, List.set_cons_succ]))
          refine lin_last (by rfl) (fun K hK => ?_)
          go_simp
          refine (must_yes _).mono ?_
          rintro e w' ⟨rfl, rfl⟩
          refine hK _ _ trivial ?_
          go_wp2_with fail
          go_ret2
          exact AgainPost.good HD.out Hsh.out HN.out (by rw [HN'.out]; exact Hc.out)
        · have Hc : Hid (¬ (N + N' = 65535 ∧ least ≤ N ∧ (N : Int) ≤ most)) := Lib.hid (fun h => k3 h.2.2)
          have k4 : decide (least ≤ N) = true := decide_eq_true k2
          have k5 : decide ((N : Int) ≤ most) = false := decide_eq_false k3
          repeat (first | (refine lin_take ?_ (by rfl) (fun wx hx => ?_) ?_; rotate_left; go_simp; (with_reducible rfl); try simp only [Act.put, List.setIfInBounds_toArray, List.set_cons_zero, List.set_cons_succ]) | (refine lin_skip (by rfl) ?_; try simp only [Act.put, List.setIfInBounds_toArray, List.set_cons_zero, List.set_cons_succ]) | (refine lin_take3 ?_ (by rfl) (fun wx hx => ?_) ?_; rotate_left; go_simp; (with_reducible rfl); try simp only [Act.put, List.setIfInBounds_toArray, List.set_cons_zero, List.set_cons_succ]) | (refine lin_skip3 (by rfl) ?_; try simp only [Act.put, List.setIfInBounds_toArray, List.set_cons_zero, List.set_cons_succ]))
          refine lin_last (by rfl) (fun K hK => ?_)
          go_simp
          refine (must_no _).mono ?_
          rintro e w' ⟨rfl, rfl⟩
          exact ⟨rfl, AgainPost.bad HD.out Hsh.out HN.out (by rw [HN'.out]; exact Hc.out)⟩
      · have Hc : Hid (¬ (N + N' = 65535 ∧ least ≤ N ∧ (N : Int) ≤ most)) := Lib.hid (fun h => k2 h.2.1)
        have k4 : decide (least ≤ N) = false := decide_eq_false k2
        repeat (first | (refine lin_take ?_ (by rfl) (fun wx hx => ?_) ?_; rotate_left; go_simp; (with_reducible rfl); try simp only [Act.put, List.setIfInBounds_toArray, List.set_cons_zero, List.set_cons_succ]) | (refine lin_skip (by rfl) ?_; try simp only [Act.put, List.setIfInBounds_toArray, List.set_cons_zero, List.set_cons_succ]) | (refine lin_take3 ?_ (by rfl) (fun wx hx => ?_) ?_; rotate_left; go_simp; (with_reducible rfl); try simp only [Act.put, List.setIfInBounds_toArray, List.set_cons_zero, List.set_cons_succ]) | (refine lin_skip3 (by rfl) ?_; try simp only [Act.put, List.setIfInBounds_toArray, List.set_cons_zero, List.set_cons_succ]))
        refine lin_last (by rfl) (fun K hK => ?_)
        go_simp
        refine (must_no _).mono ?_
        rintro e w' ⟨rfl, rfl⟩
        exact ⟨rfl, AgainPost.bad HD.out Hsh.out HN.out (by rw [HN'.out]; exact Hc.out)⟩
  · go_enter Tryd.func56, Tryd.ntmps56
    go_wp2_with fail
    refine (number_any _ _ _ _ w HP.out (by decide)).mono ?_
    rintro e w' ⟨rfl, rfl⟩
    rw [HN.out]
    go_wp2_with fail
    refine region_lin (fun wx => Ext w wx) 23 [(0, 3), (1, 3), (2, 3), (3, 3), (6, 3), (7, 3), (8, 3), (9, 3), (4, 1), (5, 3), (10, 3), (11, 3), (12, 3), (13, 3), (14, 3), (15, 3), (16, 3), (17, 3), (18, 3), (19, 3), (20, 3), (21, 3), (22, 3), (23, 2)] ?_ (by kernel_rfl) (by kernel_rfl) ?_ (fun _ _ _ _ _ h => h) ((Ext.refl _).drew) ?_
    rotate_left
    (simp only [planOps, List.mapM_cons, List.mapM_nil, List.getElem?_toArray, List.getElem?_cons_zero, List.getElem?_cons_succ, Option.map_some, Option.bind_eq_bind, Option.bind_some, Option.pure_def]; rfl)
    intro wd hwd hxd
    repeat (first | (refine lin_take ?_ (by rfl) (fun wx hx => ?_) ?_; rotate_left; go_simp; (with_reducible rfl); try simp only [Act.put, List.setIfInBounds_toArray, List.set_cons_zero, List.set_cons_succ]) | (refine lin_skip (by rfl) ?_; try simp only [Act.put, List.setIfInBounds_toArray, List.set_cons_zero, List.set_cons_succ]) | (refine lin_take3 ?_ (by rfl) (fun wx hx => ?_) ?_; rotate_left; go_simp; (with_reducible rfl); try simp only [Act.put, List.setIfInBounds_toArray, List.set_cons_zero, List.set_cons_succ]) | (refine lin_skip3 (by rfl) ?_; try simp only [Act.put, List.setIfInBounds_toArray, List.set_cons_zero, List.set_cons_succ]))
    refine lin_run (by rfl) (fun K hK => ?_)
    go_simp
    refine (number_any _ _ _ _ wd (HP2.out.ext hwd) (by decide)).mono ?_
    rintro e w' ⟨rfl, rfl⟩
    rw [HN'.out]
    refine hK _ _ hwd ?_
    clear hK
    try simp only [Act.put, List.setIfInBounds_toArray, List.set_cons_zero, List.set_cons_succ]
    have HD := Lib.hid hwd
    clear hwd hxd
    cases k1 : ((N : Int) + (N' : Int) == 4294967295) with
    | false =>
      have Hc : Hid (¬ (N + N' = 4294967295 ∧ least ≤ N ∧ (N : Int) ≤ most)) := Lib.hid (fun h => by have e := h.1; rw [beq_eq_false_iff_ne] at k1; omega)
      repeat (first | (refine lin_take ?_ (by rfl) (fun wx hx => ?_) ?_; rotate_left; go_simp; (with_reducible rfl); try simp only [Act.put, List.setIfInBounds_toArray, List.set_cons_zero, List.set_cons_succ]) | (refine lin_skip (by rfl) ?_; try simp only [Act.put, List.setIfInBounds_toArray, List.set_cons_zero, List.set_cons_succ]) | (refine lin_take3 ?_ (by rfl) (fun wx hx => ?_) ?_; rotate_left; go_simp; (with_reducible rfl); try simp only [Act.put, List.setIfInBounds_toArray, List.set_cons_zero, List.set_cons_succ]) | (refine lin_skip3 (by rfl) ?_; try simp only [Act.put, List.setIfInBounds_toArray, List.set_cons_zero, List.set_cons_succ]))
      refine lin_last (by rfl) (fun K hK => ?_)
      go_simp
      refine (must_no _).mono ?_
      rintro e w' ⟨rfl, rfl⟩
      exact ⟨rfl, AgainPost.bad HD.out Hsh.out HN.out (by rw [HN'.out]; exact Hc.out)⟩
    | true =>
      by_cases k2 : least ≤ N
      · by_cases k3 : (N : Int) ≤ most
        · have Hc : Hid (N + N' = 4294967295 ∧ least ≤ N ∧ (N : Int) ≤ most) := Lib.hid ⟨by rw [beq_iff_eq] at k1; omega, k2, k3⟩
          have k4 : decide (least ≤ N) = true := decide_eq_true k2
          have k5 : decide ((N : Int) ≤ most) = true := decide_eq_true k3
          repeat (first | (refine lin_take ?_ (by rfl) (fun wx hx => ?_) ?_; rotate_left; go_simp; (with_reducible rfl); try simp only [Act.put, List.setIfInBounds_toArray, List.set_cons_zero, List.set_cons_succ]) | (refine lin_skip (by rfl) ?_; try simp only [Act.put, List.setIfInBounds_toArray, List.set_cons_zero, List.set_cons_succ]) | (refine lin_take3 ?_ (by rfl) (fun wx hx => ?_) ?_; rotate_left; go_simp; (with_reducible rfl); try simp only [Act.put, List.setIfInBounds_toArray, List.set_cons_zero, List.set_cons_succ]) | (refine lin_skip3 (by rfl) ?_; try simp only [Act.put, List.setIfInBounds_toArray, List.set_cons_zero, List.set_cons_succ]))
          refine lin_last (by rfl) (fun K hK => ?_)
          go_simp
          refine (must_yes _).mono ?_
          rintro e w' ⟨rfl, rfl⟩
          refine hK _ _ trivial ?_
          go_wp2_with fail
          go_ret2
          exact AgainPost.good HD.out Hsh.out HN.out (by rw [HN'.out]; exact Hc.out)
        · have Hc : Hid (¬ (N + N' = 4294967295 ∧ least ≤ N ∧ (N : Int) ≤ most)) := Lib.hid (fun h => k3 h.2.2)
          have k4 : decide (least ≤ N) = true := decide_eq_true k2
          have k5 : decide ((N : Int) ≤ most) = false := decide_eq_false k3
          repeat (first | (refine lin_take ?_ (by rfl) (fun wx hx => ?_) ?_; rotate_left; go_simp; (with_reducible rfl); try simp only [Act.put, List.setIfInBounds_toArray, List.set_cons_zero, List.set_cons_succ]) | (refine lin_skip (by rfl) ?_; try simp only [Act.put, List.setIfInBounds_toArray, List.set_cons_zero, List.set_cons_succ]) | (refine lin_take3 ?_ (by rfl) (fun wx hx => ?_) ?_; rotate_left; go_simp; (with_reducible rfl); try simp only [Act.put, List.setIfInBounds_toArray, List.set_cons_zero, List.set_cons_succ]) | (refine lin_skip3 (by rfl) ?_; try simp only [Act.put, List.setIfInBounds_toArray, List.set_cons_zero, List.set_cons_succ]))
          refine lin_last (by rfl) (fun K hK => ?_)
          go_simp
          refine (must_no _).mono ?_
          rintro e w' ⟨rfl, rfl⟩
          exact ⟨rfl, AgainPost.bad HD.out Hsh.out HN.out (by rw [HN'.out]; exact Hc.out)⟩
      · have Hc : Hid (¬ (N + N' = 4294967295 ∧ least ≤ N ∧ (N : Int) ≤ most)) := Lib.hid (fun h => k2 h.2.1)
        have k4 : decide (least ≤ N) = false := decide_eq_false k2
        repeat (first | (refine lin_take ?_ (by rfl) (fun wx hx => ?_) ?_; rotate_left; go_simp; (with_reducible rfl); try simp only [Act.put, List.setIfInBounds_toArray, List.set_cons_zero, List.set_cons_succ]) | (refine lin_skip (by rfl) ?_; try simp only [Act.put, List.setIfInBounds_toArray, List.set_cons_zero, List.set_cons_succ]) | (refine lin_take3 ?_ (by rfl) (fun wx hx => ?_) ?_; rotate_left; go_simp; (with_reducible rfl); try simp only [Act.put, List.setIfInBounds_toArray, List.set_cons_zero, List.set_cons_succ]) | (refine lin_skip3 (by rfl) ?_; try simp only [Act.put, List.setIfInBounds_toArray, List.set_cons_zero, List.set_cons_succ]))
        refine lin_last (by rfl) (fun K hK => ?_)
        go_simp
        refine (must_no _).mono ?_
        rintro e w' ⟨rfl, rfl⟩
        exact ⟨rfl, AgainPost.bad HD.out Hsh.out HN.out (by rw [HN'.out]; exact Hc.out)⟩
end Go.Proofs.YtcpnnkkfndgpjaaDoor
