/- put and told, and what they leave alone. -/
import Derived.Test.YtcpnnkkfndgpjaaDoorWB
namespace Go.Proofs.YtcpnnkkfndgpjaaDoor
open Go.RowKit

/-- v became v': what was there is as it was, but for v's own block; v' lies in that block or in a new one. -/
structure Grew (w w' : World) (v v' : Value) : Prop where
  md : Mod (fun k => v.ownBlock = some k) w w'
  own : ∀ k, v'.ownBlock = some k → v.ownBlock = some k ∨ w.heap.size ≤ k
section
variable {w w1 w' : World} {v v1 v' : Value}
theorem Grew.refl (w : World) (v : Value) : Grew w w v v := ⟨Mod.refl _ _, fun _ h => .inl h⟩
theorem Grew.drewn {v : Value} (h : Ext w w') : Grew w w' v v := ⟨Mod.mono h (fun _ _ f => f.elim), fun _ h => .inl h⟩
theorem Grew.trans (h : Grew w w1 v v1) (k : Grew w1 w' v1 v') : Grew w w' v v' :=
  ⟨h.md.trans k.md (fun i hi e => by rcases h.own i e with h | h; exact h; omega), fun j hj => by
    rcases k.own j hj with k1 | k1
    · exact h.own j k1
    · exact .inr (Nat.le_trans h.md.size k1)⟩
theorem Grew.ext (h : Grew w w1 v v1) (k : Ext w1 w') : Grew w w' v v1 := h.trans (Grew.drewn k)
theorem Grew.app (hg : w.grownBy w' v.ownBlock) (hv : v'.ownBlock = v.ownBlock ∨ v'.ownBlock = some w.heap.size) : Grew w w' v v' :=
  ⟨(Mod.refl _ _).grown hg (fun k e _ => e), fun k hk => by
    rcases hv with h | h
    · exact .inl (h ▸ hk)
    · rw [h] at hk; injection hk with hk; exact .inr (by omega)⟩
end
set_option maxRecDepth 20000 in
theorem put_g (w0 : World) (v : Value) (l : Bs) (N K : Nat) (w : World) (hm : MineB w0 w v l) (hN : N < 18446744073709551616) (hK : K ≤ 8) (hl : l.length ≤ 1073741824) :
    Calls Tryd.prog 29 #[v, .int .u64 (N : Int), .int .i64 (K : Int)] w fun e w' => ∃ v', e = .returned v' ∧ MineB w0 w' v' (l ++ beN K N) ∧ Grew w w' v v' := by
  have HM := Lib.hid hm
  have HN : Hid (True ∧ N < 18446744073709551616) := ⟨trivial, hN⟩
  obtain ⟨A0, c0, rfl, -⟩ := hm.form
  clear hm hN
  obtain ⟨i, hi, hz, hsz, hby⟩ := info_parts Tryd.info5
  go_enter Tryd.func29, Tryd.ntmps29
  go_wp2_with fail
  go_loopw [0, 7] (fun bv iv wr => ∃ (k : Nat) (A : Option Addr) (n c : Nat) (l' : Bs), k ≤ K ∧ (∃ z : Int, iv = .int .i64 z ∧ z = (k : Int) - 1) ∧ bv = .slice A n c ∧ n = l'.length ∧ n + k ≤ l.length + K ∧ MineB w0 wr (.slice A n c) l' ∧ l' ++ beN k N = l ++ beN K N ∧ Grew w wr (.slice A0 l.length c0) (.slice A n c)) (fun _ iv _ => (intOf iv + 1).toNat)
  case atStart => exact ⟨K, A0, l.length, c0, l, Nat.le_refl _, ⟨_, rfl, rfl⟩, rfl, rfl, Nat.le_refl _, HM.out, rfl, Grew.refl _ _⟩
  case round =>
    obtain ⟨k, A, n, c, l', hk, ⟨z, rfl, hz⟩, rfl, hnl, hnb, hmi, hll, hgw⟩ := hrel
    have HGw := Lib.hid hgw
    clear hgw
    have HMi := Lib.hid hmi
    have Hll := Lib.hid hll
    have Hnl := Lib.hid hnl
    clear hmi hll hnl
    rcases Nat.eq_zero_or_pos k with hk0 | hk0
    · subst hk0
      obtain rfl : z = -1 := by omega
      clear hz
      have He : Hid (l' = l ++ beN K N) := Lib.hid (by rw [← Hll.out]; simp [beN])
      go_wp2_with fail
      go_ret
      exact ⟨_, rfl, by have := HMi.out; rwa [He.out] at this, HGw.out⟩
    · obtain ⟨j, rfl⟩ : ∃ j, k = j + 1 := ⟨k - 1, by omega⟩
      obtain rfl : z = (j : Int) := by omega
      clear hz hk0
      have HO : Hid (Own wr 5 1 (.slice A n c) n (u8v l')) := Lib.hid (by have := HMi.out.2.1; rwa [← Hnl.out] at this)
      have hj8 : (j : Int) ≤ 7 := by omega
      obtain ⟨b, hb⟩ : ∃ b : UInt8, UInt8.ofNat (N / 256 ^ j) = b := ⟨_, rfl⟩
      have hv := byte_at N j
      rw [hb] at hv
      have Hb := Lib.hid hb
      clear hb
      go_wp2_with (at_builtin; refine wpList_append_own_any _ rfl (.tmp 14) (.tmp 20) 26 rfl 5 i _ 1 1 Tryd.underlying26 hi hz hsz hby rfl (by decide) (.slice A n c) n (u8v l') rfl (HO.out.ext ((Ext.refl _).alloc _)) (some ⟨wr.heap.size, 0, none⟩) 1 1 (u8v [b]) rfl rfl (fun _ => ⟨_, rfl, new_cells _ _ _⟩) (u8v_one [b]) (by unfold maxLen; omega) (by omega) ?_)
      intro v' w9 ho hg hv'
      have HN2 := Lib.hid ((HMi.out.ext ((Ext.refl _).alloc _)).push (v' := v') [b] rfl (by rw [← Hnl.out]; exact ho) hg (by simpa using hv'))
      have HG2 := Lib.hid ((HGw.out.ext ((Ext.refl _).alloc _)).trans (Grew.app hg (by simpa using hv')))
      obtain ⟨A', c', rfl, -, -⟩ := ho.form
      clear ho hg hv'
      go_wp2_with fail
      go_roundw
      case rel => exact ⟨j, A', n + 1, c', l' ++ [b], by omega, ⟨_, rfl, rfl⟩, rfl, by simp [Hnl.out], by omega, HN2.out, by rw [← Hll.out, ← Hb.out, List.append_assoc]; rfl, HG2.out⟩
      case measure => simp [intOf]
set_option maxRecDepth 20000 in
theorem told_g (w0 : World) (v : Value) (l : Bs) (N K : Nat) (w : World) (hm : MineB w0 w v l) (hK : K = 2 ∨ K = 4) (hN : N < 256 ^ K) (hl : l.length ≤ 1073741000) :
    Calls Tryd.prog 28 #[v, .int .i64 (N : Int), .int .i64 (K : Int)] w fun e w' => ∃ v', e = .returned v' ∧ MineB w0 w' v' (l ++ beN K N ++ beN K (256 ^ K - 1 - N)) ∧ Grew w w' v v' := by
  have HM := Lib.hid hm
  have HL : Hid (True ∧ l.length ≤ 1073741000) := ⟨trivial, hl⟩
  obtain ⟨A0, c0, rfl, -⟩ := hm.form
  clear hm hl
  obtain ⟨M, hM⟩ : ∃ M : Nat, 256 ^ K - 1 - N = M := ⟨_, rfl⟩
  rw [hM]
  have HNK : Hid (N < 18446744073709551616 ∧ M < 18446744073709551616 ∧ K ≤ 8) := by
    rcases hK with rfl | rfl
    · exact ⟨by omega, by omega, by decide⟩
    · exact ⟨by omega, by omega, by decide⟩
  rcases hK with rfl | rfl
  all_goals
    have hN2 : (N : Int) ≤ 4294967295 := by omega
    first
    | (have q : Hid (IntKind.u64.wrap (IntKind.u64.wrap (IntKind.u64.wrap 65536 - 1) - (N : Int)) = (M : Int)) := Lib.hid (by rw [show IntKind.u64.wrap 65536 = 65536 from by decide, show IntKind.u64.wrap (65536 - 1) = 65535 from by decide, IntWalk.u64_in _ (by omega)]; omega))
    | (have q : Hid (IntKind.u64.wrap (IntKind.u64.wrap (IntKind.u64.wrap 4294967296 - 1) - (N : Int)) = (M : Int)) := Lib.hid (by rw [show IntKind.u64.wrap 4294967296 = 4294967296 from by decide, show IntKind.u64.wrap (4294967296 - 1) = 4294967295 from by decide, IntWalk.u64_in _ (by omega)]; omega))
    clear hM hN
    have k1 : IntKind.i64.wrap 16 = 16 := by decide
    have k2 : IntKind.i64.wrap 32 = 32 := by decide
    have k3 : IntKind.u64.wrap (N : Int) = (N : Int) := IntWalk.u64_in _ (by omega)
    go_enter Tryd.func28, Tryd.ntmps28
    go_wp2_with fail
    refine region_lin (fun _ => True) 100000 [(0, 3), (1, 3), (2, 3), (3, 3), (5, 3), (6, 3), (7, 3), (8, 3), (9, 3), (10, 3), (11, 3), (12, 3), (4, 1), (13, 1), (14, 3)] ?_ (by kernel_rfl) (by kernel_rfl) ?_ (fun _ _ _ _ _ h => h) (trivial) ?_
    rotate_left
    (simp only [planOps, List.mapM_cons, List.mapM_nil, List.getElem?_toArray, List.getElem?_cons_zero, List.getElem?_cons_succ, Option.map_some, Option.bind_eq_bind, Option.bind_some, Option.pure_def]; rfl)
    intro wd hwd hxd
    repeat (first | (refine lin_take ?_ (by rfl) (fun wx hx => ?_) ?_; rotate_left; go_simp; (with_reducible rfl); try simp only [Act.put, List.setIfInBounds_toArray, List.set_cons_zero, List.set_cons_succ]) | (refine lin_skip (by rfl) ?_; try simp only [Act.put, List.setIfInBounds_toArray, List.set_cons_zero, List.set_cons_succ]) | (refine lin_take3 ?_ (by rfl) (fun wx hx => ?_) ?_; rotate_left; go_simp; (with_reducible rfl); try simp only [Act.put, List.setIfInBounds_toArray, List.set_cons_zero, List.set_cons_succ]))
    refine lin_run (by rfl) (fun K hK => ?_)
    go_simp
    refine (put_g w0 _ l N _ wd (HM.out.ext hxd) HNK.out.1 HNK.out.2.2 (by have := HL.out.2; omega)).mono ?_
    rintro e w1 ⟨v1, rfl, hm1, hgr1⟩
    refine hK _ _ trivial ?_
    try simp only [Act.put, List.setIfInBounds_toArray, List.set_cons_zero, List.set_cons_succ]
    refine lin_run (by rfl) (fun K hK => ?_)
    go_simp
    rw [q.out]
    refine (put_g w0 v1 _ M _ w1 hm1 HNK.out.2.1 HNK.out.2.2 (by have := HL.out.2; rw [List.length_append, beN_len]; omega)).mono ?_
    rintro e w2 ⟨v2, rfl, hm2, hgr2⟩
    have HGr := Lib.hid ((Grew.drewn (v := .slice A0 l.length c0) hxd).trans (hgr1.trans hgr2))
    clear hgr1 hgr2
    refine hK _ _ trivial ?_
    try simp only [Act.put, List.setIfInBounds_toArray, List.set_cons_zero, List.set_cons_succ]
    repeat (first | (refine lin_take ?_ (by rfl) (fun wx hx => ?_) ?_; rotate_left; go_simp; (with_reducible rfl); try simp only [Act.put, List.setIfInBounds_toArray, List.set_cons_zero, List.set_cons_succ]) | (refine lin_skip (by rfl) ?_; try simp only [Act.put, List.setIfInBounds_toArray, List.set_cons_zero, List.set_cons_succ]) | (refine lin_take3 ?_ (by rfl) (fun wx hx => ?_) ?_; rotate_left; go_simp; (with_reducible rfl); try simp only [Act.put, List.setIfInBounds_toArray, List.set_cons_zero, List.set_cons_succ]))
    refine lin_nil ?_
    have HM2 := Lib.hid hm2
    obtain ⟨A2, c2, rfl, -⟩ := hm2.form
    clear hm1 hm2
    go_wp2_with fail
    go_ret
    exact ⟨_, rfl, HM2.out, HGr.out⟩
end Go.Proofs.YtcpnnkkfndgpjaaDoor
