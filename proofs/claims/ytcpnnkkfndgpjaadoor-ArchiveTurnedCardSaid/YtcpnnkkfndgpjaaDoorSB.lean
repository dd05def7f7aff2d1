/- Bytes that the call itself gathers: append of bytes, of a slice, of a string; put, told. -/
import Derived.Test.YtcpnnkkfndgpjaaDoorSA
import Derived.Deep.AppendSrc
namespace Go.Proofs.YtcpnnkkfndgpjaaDoor
open Go.RowKit

theorem Tryd.info5 : (Tryd.prog.info? 5).map (fun i => (i.zero, i.size, i.bytes)) = some (some (.int .u8 0), 1, 1) := by kernel_rfl
section
variable {P : Program} (w : World)
theorem run_append_own_str (t u ty e : TypeId) (i : TypeInfo) (z : Value) (bytes : Nat) (ht : P.underlying t = some (.slice e)) (hu : P.underlying u = some .string) (hi : P.info? e = some i) (hz : i.zero = some z)
    (hsize : i.size = 1) (hby : i.bytes = bytes) (hzs : z.cells.size = 1)
    (v : Value) (n : Nat) (xs : List Value) (hown : Own w e 1 v n xs) (s : ByteArray)
    (h63 : n + s.size ≤ maxLen) (hbytes : (n + s.size) * bytes ≤ 140737488355328) :
    ∃ v' w', (Builtin.append_ #[t, u] ty #[v, .string s]).run P w = .ok v' w' ∧ Own w' e 1 v' (n + s.size) (xs ++ byteCells s) ∧ w.grownBy w' v.ownBlock ∧
      (v'.ownBlock = v.ownBlock ∨ v'.ownBlock = some w.heap.size) := by
  subst hby
  have hl := byteCells_length s
  have hsmall : n + s.size ≤ 9223372036854775807 := by simp only [maxLen] at h63; omega
  have hlen : (xs ++ byteCells s).length = (n + s.size) * 1 := by rw [List.length_append, hown.1, hl]; omega
  have hS := fun w0 : World => Src.ofString (P := P) w0 hu s
  have grown : ∀ (old : Nat), old < n + s.size → ∀ (row : Option Nat),
      Own (w.drew.alloc (.cells ((xs ++ byteCells s).toArray ++ Builtin.zeroCells z.cells (grownCap w (n + s.size) old e - (n + s.size))) e)) e 1
        (.slice (some ⟨w.heap.size, 0, none⟩) (n + s.size) (grownCap w (n + s.size) old e)) (n + s.size) (xs ++ byteCells s) ∧
      w.grownBy (w.drew.alloc (.cells ((xs ++ byteCells s).toArray ++ Builtin.zeroCells z.cells (grownCap w (n + s.size) old e - (n + s.size))) e)) row := by
    intro old ho row
    have hge := grownCap_ge w (n + s.size) old e
    have hcm : grownCap w (n + s.size) old e ≤ maxLen := grownCap_le_maxLen w (n + s.size) old e h63
    refine ⟨⟨hlen, .inr ⟨w.heap.size, 0, _, _, rfl, heap_alloc_new w.drew _, hge, hcm, ?_, ?_⟩⟩, ⟨rfl, rfl, rfl, by simp, fun k hk _ => Below.heap_alloc w.drew _ k hk⟩⟩
    · simp only [Array.size_append, List.size_toArray, size_zeroCells, hzs, hlen]
      omega
    · simp only [Array.toList_append, List.drop_zero]
      rw [← hlen]
      exact List.take_left
  rcases hown.2 with ⟨rfl, rfl⟩ | ⟨g, off, cap, cur, rfl, hg, hnc, hcm, hcs, htake⟩
  · have hx : xs = [] := List.eq_nil_of_length_eq_zero (by simpa using hown.1)
    subst hx
    rcases Nat.eq_zero_or_pos s.size with h0 | h0
    · have hb : byteCells s = [] := List.eq_nil_of_length_eq_zero (by rw [hl, h0])
      refine ⟨.slice none 0 0, w, ?_, by rw [hb, h0]; exact Own.nil w e 1, World.grownBy.refl w _, .inl rfl⟩
      have hcells := (hS w).cells
      rw [h0] at hcells
      simp [Builtin.append_, run_underlying ht, run_underlying hu, sizeOf, typeInfo, hi, hsize, (hS w).len, h0, hcells]
    · have hr := run_append_grow_src (P := P) w t u ty e i z ht hi hz none 0 0 [] (by rw [hsize]; exact run_firstCells_none w.drew 1 0 0 0) (.string s) s.size (byteCells s) (by rw [hsize]; exact hS w) (by omega) (by omega) (growslice_fits (by omega) hbytes)
      have hgr := grown 0 (by omega) (Value.ownBlock (.slice none 0 0))
      simp only [List.nil_append] at hgr hr
      exact ⟨_, _, hr, hgr.1, hgr.2, .inr rfl⟩
  · by_cases hroom : n + s.size ≤ cap
    · have hfit : off + n * 1 + (byteCells s).length ≤ cur.size := by rw [hl]; omega
      have hst := run_storeCells_at P g (off + n * 1) e (byteCells s) 0 cur w hg (by simpa using hfit) (hS w).one
      simp only [Nat.add_zero] at hst
      refine ⟨.slice (some ⟨g, off, none⟩) (n + s.size) cap, w.setRow g (cur.toList.take (off + n * 1) ++ byteCells s ++ cur.toList.drop (off + n * 1 + (byteCells s).length)).toArray, ?_, ⟨hlen, .inr ⟨g, off, cap, _, rfl, setRow_heap w g cur _ e _ hg, hroom, hcm, ?_, ?_⟩⟩, ⟨rfl, rfl, rfl, by simp [World.setRow], fun k _ hk => setRow_other w g k _ (fun e => hk (by simp [Value.ownBlock, e]))⟩, .inl rfl⟩
      · simp only [Nat.mul_one] at hst ⊢
        rcases (hS w).kind with ⟨e', hk⟩ | hk <;> simp [Builtin.append_, run_underlying ht, run_underlying hk, sizeOf, typeInfo, hi, hsize, (hS w).len, hroom, (hS w).cells, Addr.add_lit, hst]
      · simp only [List.size_toArray, List.length_append, List.length_take, List.length_drop, Array.length_toList]
        omega
      · have h3 : (cur.toList.take (off + n * 1)).drop off = xs := by
          rw [List.drop_take, ← htake]
          congr 1
          omega
        have h4 : off ≤ (cur.toList.take (off + n * 1)).length := by
          simp only [List.length_take, Array.length_toList]; omega
        simp only [List.append_assoc]
        rw [List.drop_append_of_le_length h4, h3, ← hlen, ← List.append_assoc]
        exact List.take_left
    · have hr := run_append_grow_src (P := P) w t u ty e i z ht hi hz (some ⟨g, off, none⟩) n cap xs (by rw [hsize]; exact run_firstCells_some w.drew 1 n ⟨g, off, none⟩ n cap xs hown.1 (fun j u hu => by rw [add_off]; exact (World.cell?_drew ..).trans (hown.cells rfl j u hu))) (.string s) s.size (byteCells s) (by rw [hsize]; exact hS w) (by omega) (by omega) (growslice_fits (by omega) hbytes)
      have hgr := grown cap (by omega) (Value.ownBlock (.slice (some ⟨g, off, none⟩) n cap))
      exact ⟨_, _, hr, hgr.1, hgr.2, .inr rfl⟩
theorem wp_append_own_str {o : Oper} {a : Act} {K : Act → World → Prop} {Q : Exit → Act → World → Prop} (s x : Operand) (t u : TypeId)
    (ho : o.op = .call { callee := .builtin .append, args := #[s, x], argTypes := #[t, u] })
    (e : TypeId) (i : TypeInfo) (z : Value) (bytes : Nat) (ht : P.underlying t = some (.slice e)) (hu : P.underlying u = some .string) (hi : P.info? e = some i) (hz : i.zero = some z)
    (hsize : i.size = 1) (hby : i.bytes = bytes) (hzs : z.cells.size = 1)
    (v : Value) (n : Nat) (xs : List Value) (hs : a.eval s = v) (hown : Own w e 1 v n xs) (str : ByteArray) (hx : a.eval x = .string str)
    (h63 : n + str.size ≤ maxLen) (hbytes : (n + str.size) * bytes ≤ 140737488355328)
    (h : ∀ v' w', Own w' e 1 v' (n + str.size) (xs ++ byteCells str) → w.grownBy w' v.ownBlock → (v'.ownBlock = v.ownBlock ∨ v'.ownBlock = some w.heap.size) → K (a.put o.dst v') w') : o.wp P a w K Q := by
  obtain ⟨v', w', hrun, h2, h3, h4⟩ := run_append_own_str (P := P) w t u o.type e i z bytes ht hu hi hz hsize hby hzs v n xs hown str h63 hbytes
  unfold Oper.wp execOp
  simp only [ho, resolve, invoke, builtin, Sem.run_bind, Sem.run_pure, Result.andThen_ok, List.map_toArray, List.map_cons, List.map_nil, hs, hx, hrun]
  exact h v' w' h2 h3 h4
theorem wpList_append_own_str {ops : Array Oper} {rest : List Oper} {o : Oper} {a : Act} {Q : Exit → Act → World → Prop} (hgd : o.guard = none) (s x : Operand) (t u : TypeId)
    (ho : o.op = .call { callee := .builtin .append, args := #[s, x], argTypes := #[t, u] })
    (e : TypeId) (i : TypeInfo) (z : Value) (bytes : Nat) (ht : P.underlying t = some (.slice e)) (hu : P.underlying u = some .string) (hi : P.info? e = some i) (hz : i.zero = some z)
    (hsize : i.size = 1) (hby : i.bytes = bytes) (hzs : z.cells.size = 1)
    (v : Value) (n : Nat) (xs : List Value) (hs : a.eval s = v) (hown : Own w e 1 v n xs) (str : ByteArray) (hx : a.eval x = .string str)
    (h63 : n + str.size ≤ maxLen) (hbytes : (n + str.size) * bytes ≤ 140737488355328)
    (h : ∀ v' w', Own w' e 1 v' (n + str.size) (xs ++ byteCells str) → w.grownBy w' v.ownBlock → (v'.ownBlock = v.ownBlock ∨ v'.ownBlock = some w.heap.size) → wpList P ops Q rest (a.put o.dst v') w') : wpList P ops Q (o :: rest) a w :=
  wpList_plain hgd fun _ hK => wp_append_own_str w s x t u ho e i z bytes ht hu hi hz hsize hby hzs v n xs hs hown str hx h63 hbytes fun v' w' h2 h3 h4 => hK _ _ (h v' w' h2 h3 h4)
end
theorem byteCells_u8v (s : ByteArray) : byteCells s = u8v s.data.toList := rfl
theorem u8v_app (l m : Bs) : u8v (l ++ m) = u8v l ++ u8v m := by simp [u8v]
theorem u8v_len (l : Bs) : (u8v l).length = l.length := by simp [u8v]
theorem u8v_one (l : Bs) : ∀ u ∈ u8v l, u.oneCell' = true := by
  intro u hu
  obtain ⟨_, _, rfl⟩ := List.mem_map.1 hu
  rfl
/-- A slice that has come into being since w0, and reads as these bytes. -/
def MineB (w0 w : World) (v : Value) (l : Bs) : Prop := Ext w0 w ∧ Own w 5 1 v l.length (u8v l) ∧ ∀ k, v.ownBlock = some k → w0.heap.size ≤ k
section
variable {w0 w w' : World} {v v' : Value} {l m : Bs}
theorem MineB.ext (h : MineB w0 w v l) (hx : Ext w w') : MineB w0 w' v l := ⟨h.1.trans hx, h.2.1.ext hx, h.2.2⟩
theorem MineB.nil (hx : Ext w0 w) : MineB w0 w (.slice none 0 0) [] := ⟨hx, Own.nil w 5 1, fun k h => by simp [Value.ownBlock] at h⟩
theorem MineB.push (h : MineB w0 w v l) (m : Bs) {n : Nat} (hn : n = m.length) (ho : Own w' 5 1 v' (l.length + n) (u8v l ++ u8v m)) (hg : w.grownBy w' v.ownBlock) (hv : v'.ownBlock = v.ownBlock ∨ v'.ownBlock = some w.heap.size) : MineB w0 w' v' (l ++ m) := by
  subst hn
  refine ⟨h.1.grown hg (fun k e => h.2.2 k e), by rw [List.length_append, u8v_app]; exact ho, fun k e => ?_⟩
  rcases hv with hv | hv
  · exact h.2.2 k (hv ▸ e)
  · rw [hv] at e
    injection e with e
    have := h.1.size
    omega
theorem MineB.base (h : MineB w0 w v l) {w1 : World} (hx : Ext w1 w0) : MineB w1 w v l := ⟨hx.trans h.1, h.2.1, fun k e => Nat.le_trans hx.size (h.2.2 k e)⟩
theorem MineB.form (h : MineB w0 w v l) : ∃ A c, v = .slice A l.length c ∧ BySl w A l.length l := by
  obtain ⟨A, c, rfl, -, -⟩ := h.2.1.form
  exact ⟨A, c, rfl, h.2.1.bytes rfl⟩
end
theorem new_cells (w : World) (l : List Value) (e : TypeId) (j : Nat) (u : Value) (h : l[j]? = some u) : (w.alloc (.cells l.toArray e)).cell? ((⟨w.heap.size, 0, none⟩ : Addr).add j) = some u := by
  rw [add_off, Nat.zero_add, (Ext.refl _).cell_new]
  simpa using h
/-- The low byte of a number that was shifted. -/
theorem byte_at (n k : Nat) : ((n : Int) / 2 ^ (8 * k) % 256) = ((UInt8.ofNat (n / 256 ^ k)).toNat : Int) := by
  have e : n / 2 ^ (8 * k) = n / 256 ^ k := by rw [Nat.pow_mul]
  have e2 : (n : Int) / 2 ^ (8 * k) = ((n / 2 ^ (8 * k) : Nat) : Int) := by rw [Int.natCast_ediv, Int.natCast_pow]; rfl
  rw [e2, e]
  generalize n / 256 ^ k = x
  have h : (UInt8.ofNat x).toNat = x % 256 := by simp
  rw [h]
  omega
set_option maxRecDepth 20000 in
theorem put_any (w0 : World) (v : Value) (l : Bs) (N K : Nat) (w : World) (hm : MineB w0 w v l) (hN : N < 18446744073709551616) (hK : K ≤ 8) (hl : l.length ≤ 1073741824) :
    Calls Tryd.prog 29 #[v, .int .u64 (N : Int), .int .i64 (K : Int)] w fun e w' => ∃ v', e = .returned v' ∧ MineB w0 w' v' (l ++ beN K N) := by
  have HM := Lib.hid hm
  have HN : Hid (True ∧ N < 18446744073709551616) := ⟨trivial, hN⟩
  obtain ⟨A0, c0, rfl, -⟩ := hm.form
  clear hm hN
  obtain ⟨i, hi, hz, hsz, hby⟩ := info_parts Tryd.info5
  go_enter Tryd.func29, Tryd.ntmps29
  go_wp2_with fail
  go_loopw [0, 7] (fun bv iv wr => ∃ (k : Nat) (A : Option Addr) (n c : Nat) (l' : Bs), k ≤ K ∧ (∃ z : Int, iv = .int .i64 z ∧ z = (k : Int) - 1) ∧ bv = .slice A n c ∧ n = l'.length ∧ n + k ≤ l.length + K ∧ MineB w0 wr (.slice A n c) l' ∧ l' ++ beN k N = l ++ beN K N) (fun _ iv _ => (intOf iv + 1).toNat)
  case atStart => exact ⟨K, A0, l.length, c0, l, Nat.le_refl _, ⟨_, rfl, rfl⟩, rfl, rfl, Nat.le_refl _, HM.out, rfl⟩
  case round =>
    obtain ⟨k, A, n, c, l', hk, ⟨z, rfl, hz⟩, rfl, hnl, hnb, hmi, hll⟩ := hrel
    have HMi := Lib.hid hmi
    have Hll := Lib.hid hll
    have Hnl := Lib.hid hnl
    clear hmi hll hnl
    rcases Nat.eq_zero_or_pos k with hk0 | hk0
    · subst hk0
      obtain rfl : z = -1 := by omega
      clear hz
      have He : Hid (l' = l ++ beN K N) := Lib.hid (by rw [← Hll.out]; simp [beN])
      go_wp2_with fail
      go_ret
      exact ⟨_, rfl, by have := HMi.out; rwa [He.out] at this⟩
    · obtain ⟨j, rfl⟩ : ∃ j, k = j + 1 := ⟨k - 1, by omega⟩
      obtain rfl : z = (j : Int) := by omega
      clear hz hk0
      have HO : Hid (Own wr 5 1 (.slice A n c) n (u8v l')) := Lib.hid (by have := HMi.out.2.1; rwa [← Hnl.out] at this)
      have hj8 : (j : Int) ≤ 7 := by omega
      obtain ⟨b, hb⟩ : ∃ b : UInt8, UInt8.ofNat (N / 256 ^ j) = b := ⟨_, rfl⟩
      have hv := byte_at N j
      rw [hb] at hv
      have Hb := Lib.hid hb
      clear hb
      go_wp2_with (at_builtin; refine wpList_append_own_any _ rfl (.tmp 14) (.tmp 20) 26 rfl 5 i _ 1 1 Tryd.underlying26 hi hz hsz hby rfl (by decide) (.slice A n c) n (u8v l') rfl (HO.out.ext ((Ext.refl _).alloc _)) (some ⟨wr.heap.size, 0, none⟩) 1 1 (u8v [b]) rfl rfl (fun _ => ⟨_, rfl, new_cells _ _ _⟩) (u8v_one [b]) (by unfold maxLen; omega) (by omega) ?_)
      intro v' w9 ho hg hv'
      have HN2 := Lib.hid ((HMi.out.ext ((Ext.refl _).alloc _)).push (v' := v') [b] rfl (by rw [← Hnl.out]; exact ho) hg (by simpa using hv'))
      obtain ⟨A', c', rfl, -, -⟩ := ho.form
      clear ho hg hv'
      go_wp2_with fail
      go_roundw
      case rel => exact ⟨j, A', n + 1, c', l' ++ [b], by omega, ⟨_, rfl, rfl⟩, rfl, by simp [Hnl.out], by omega, HN2.out, by rw [← Hll.out, ← Hb.out, List.append_assoc]; rfl⟩
      case measure => simp [intOf]
set_option maxRecDepth 20000 in
theorem told_any (w0 : World) (v : Value) (l : Bs) (N K : Nat) (w : World) (hm : MineB w0 w v l) (hK : K = 2 ∨ K = 4) (hN : N < 256 ^ K) (hl : l.length ≤ 1073741000) :
    Calls Tryd.prog 28 #[v, .int .i64 (N : Int), .int .i64 (K : Int)] w fun e w' => ∃ v', e = .returned v' ∧ MineB w0 w' v' (l ++ beN K N ++ beN K (256 ^ K - 1 - N)) := by
  have HM := Lib.hid hm
  have HL : Hid (True ∧ l.length ≤ 1073741000) := ⟨trivial, hl⟩
  obtain ⟨A0, c0, rfl, -⟩ := hm.form
  clear hm hl
  obtain ⟨M, hM⟩ : ∃ M : Nat, 256 ^ K - 1 - N = M := ⟨_, rfl⟩
  rw [hM]
  have HNK : Hid (N < 18446744073709551616 ∧ M < 18446744073709551616 ∧ K ≤ 8) := by
    rcases hK with rfl | rfl
    · exact ⟨by omega, by omega, by decide⟩
    · exact ⟨by omega, by omega, by decide⟩
  rcases hK with rfl | rfl
  all_goals
    have hN2 : (N : Int) ≤ 4294967295 := by omega
    first
    | (have q : Hid (IntKind.u64.wrap (IntKind.u64.wrap (IntKind.u64.wrap 65536 - 1) - (N : Int)) = (M : Int)) := Lib.hid (by rw [show IntKind.u64.wrap 65536 = 65536 from by decide, show IntKind.u64.wrap (65536 - 1) = 65535 from by decide, IntWalk.u64_in _ (by omega)]; omega))
    | (have q : Hid (IntKind.u64.wrap (IntKind.u64.wrap (IntKind.u64.wrap 4294967296 - 1) - (N : Int)) = (M : Int)) := Lib.hid (by rw [show IntKind.u64.wrap 4294967296 = 4294967296 from by decide, show IntKind.u64.wrap (4294967296 - 1) = 4294967295 from by decide, IntWalk.u64_in _ (by omega)]; omega))
    clear hM hN
    have k1 : IntKind.i64.wrap 16 = 16 := by decide
    have k2 : IntKind.i64.wrap 32 = 32 := by decide
    have k3 : IntKind.u64.wrap (N : Int) = (N : Int) := IntWalk.u64_in _ (by omega)
    go_enter Tryd.func28, Tryd.ntmps28
    go_wp2_with fail
    refine region_lin (fun _ => True) 100000 [(0, 3), (1, 3), (2, 3), (3, 3), (5, 3), (6, 3), (7, 3), (8, 3), (9, 3), (10, 3), (11, 3), (12, 3), (4, 1), (13, 1), (14, 3)] ?_ (by kernel_rfl) (by kernel_rfl) ?_ (fun _ _ _ _ _ h => h) (trivial) ?_
    rotate_left
    (simp only [planOps, List.mapM_cons, List.mapM_nil, List.getElem?_toArray, List.getElem?_cons_zero, List.getElem?_cons_succ, Option.map_some, Option.bind_eq_bind, Option.bind_some, Option.pure_def]; rfl)
    intro wd hwd hxd
    repeat (first | (refine lin_take ?_ (by rfl) (fun wx hx => ?_) ?_; rotate_left; go_simp; (with_reducible rfl); try simp only [Act.put, List.setIfInBounds_toArray, List.set_cons_zero, List.set_cons_succ]) | (refine lin_skip (by rfl) ?_; try simp only [Act.put, List.setIfInBounds_toArray, List.set_cons_zero, List.set_cons_succ]) | (refine lin_take3 ?_ (by rfl) (fun wx hx => ?_) ?_; rotate_left; go_simp; (with_reducible rfl); try simp only [Act.put, List.setIfInBounds_toArray, List.set_cons_zero, List.set_cons_succ]))
    refine lin_run (by rfl) (fun K hK => ?_)
    go_simp
    refine (put_any w0 _ l N _ wd (HM.out.ext hxd) HNK.out.1 HNK.out.2.2 (by have := HL.out.2; omega)).mono ?_
    rintro e w1 ⟨v1, rfl, hm1⟩
    refine hK _ _ trivial ?_
    try simp only [Act.put, List.setIfInBounds_toArray, List.set_cons_zero, List.set_cons_succ]
    refine lin_run (by rfl) (fun K hK => ?_)
    go_simp
    rw [q.out]
    refine (put_any w0 v1 _ M _ w1 hm1 HNK.out.2.1 HNK.out.2.2 (by have := HL.out.2; rw [List.length_append, beN_len]; omega)).mono ?_
    rintro e w2 ⟨v2, rfl, hm2⟩
    refine hK _ _ trivial ?_
    try simp only [Act.put, List.setIfInBounds_toArray, List.set_cons_zero, List.set_cons_succ]
    repeat (first | (refine lin_take ?_ (by rfl) (fun wx hx => ?_) ?_; rotate_left; go_simp; (with_reducible rfl); try simp only [Act.put, List.setIfInBounds_toArray, List.set_cons_zero, List.set_cons_succ]) | (refine lin_skip (by rfl) ?_; try simp only [Act.put, List.setIfInBounds_toArray, List.set_cons_zero, List.set_cons_succ]) | (refine lin_take3 ?_ (by rfl) (fun wx hx => ?_) ?_; rotate_left; go_simp; (with_reducible rfl); try simp only [Act.put, List.setIfInBounds_toArray, List.set_cons_zero, List.set_cons_succ]))
    refine lin_nil ?_
    have HM2 := Lib.hid hm2
    obtain ⟨A2, c2, rfl, -⟩ := hm2.form
    clear hm1 hm2
    go_wp2_with fail
    go_ret
    exact ⟨_, rfl, HM2.out⟩
end Go.Proofs.YtcpnnkkfndgpjaaDoor
