/- Write: any items. -/
import Derived.Test.YtcpnnkkfndgpjaaDoorWC
import Derived.Lib.SlBytesConst
namespace Go.Proofs.YtcpnnkkfndgpjaaDoor
open Go.RowKit

/-- An item in memory: its path, its kind, the bytes that its third cell leads to. -/
def ItemAt (w : World) (b off : Nat) (x : It) : Prop :=
  w.cell? ⟨b, off, none⟩ = some (.string (mkB x.path)) ∧ w.cell? ⟨b, off + 1, none⟩ = some (.int .i8 x.kind) ∧ ∃ A c, w.cell? ⟨b, off + 2, none⟩ = some (.slice A x.data.length c) ∧ BySl w A x.data.length x.data
/-- A slice value that reads as a list of items. -/
def ItSl (w : World) (A : Option Addr) (n : Nat) (ls : List It) : Prop :=
  n = ls.length ∧ (0 < n → ∃ b off, A = some ⟨b, off, none⟩ ∧ b < w.heap.size ∧ ∀ k x, ls[k]? = some x → ItemAt w b (off + k * 3) x)
theorem ItSl.ext {w w' : World} {A n ls} (h : ItSl w A n ls) (he : Ext w w') : ItSl w' A n ls := by
  refine ⟨h.1, fun hn => ?_⟩
  obtain ⟨b, off, rfl, hb, hc⟩ := h.2 hn
  refine ⟨b, off, rfl, Nat.lt_of_lt_of_le hb he.size, fun k x hk => ?_⟩
  obtain ⟨h1, h2, A, c, h3, h4⟩ := hc k x hk
  exact ⟨(he.cell hb).trans h1, (he.cell hb).trans h2, A, c, (he.cell hb).trans h3, h4.ext he⟩
theorem ItSl.at {w : World} {A : Option Addr} {n : Nat} {ls : List It} (h : ItSl w A n ls) {k : Nat} (hk : k < n) : ∃ b off x D dc, A = some ⟨b, off, none⟩ ∧ b < w.heap.size ∧ ls[k]? = some x ∧
    w.cell? ⟨b, off + k * 3, none⟩ = some (.string (mkB x.path)) ∧ w.cell? ⟨b, off + k * 3 + 1, none⟩ = some (.int .i8 x.kind) ∧ w.cell? ⟨b, off + k * 3 + 2, none⟩ = some (.slice D x.data.length dc) ∧ BySl w D x.data.length x.data := by
  obtain ⟨b, off, rfl, hb, hc⟩ := h.2 (by omega)
  have hkl : k < ls.length := by have := h.1; omega
  obtain ⟨h1, h2, D, dc, h3, h4⟩ := hc k _ (List.getElem?_eq_getElem hkl)
  exact ⟨b, off, ls[k], D, dc, rfl, hb, List.getElem?_eq_getElem hkl, h1, h2, h3, h4⟩
theorem OwnF.lt {w : World} {v : Value} {n : Nat} {l : Bs} (h : OwnF w v n l) : ∀ k, v.ownBlock = some k → k < w.heap.size := by
  rcases h with h | ⟨A, rfl, h2, h3⟩
  · exact h.lt
  · intro k hk
    obtain ⟨b, off, rfl, hb, -⟩ := h3.2 h2
    simp [Value.ownBlock] at hk
    omega
theorem MineF.lt {w0 w : World} {v : Value} {l : Bs} (h : MineF w0 w v l) : ∀ k, v.ownBlock = some k → k < w.heap.size := h.2.1.lt
theorem BySl.news {w : World} {A : Option Addr} {n : Nat} {l : Bs} (h : BySl w A n l) : 0 < n → ∃ ad, A = some ad ∧ ∀ (j : Nat) u, (u8v l)[j]? = some u → w.cell? (ad.add j) = some u := fun hn => by
  obtain ⟨b, off, rfl, -, hc⟩ := h.2 hn
  exact ⟨_, rfl, fun j u hu => by rw [add_off]; simp only [u8v, List.getElem?_map, Option.map_eq_some_iff] at hu; obtain ⟨c', hc', rfl⟩ := hu; exact hc j c' hc'⟩
theorem kbyte_wrap {k : Int} : IntKind.u8.wrap k = ((kbyte k).toNat : Int) := by
  unfold kbyte
  rw [UInt8.toNat_ofNat']
  simp only [IntKind.wrap, IntKind.signed, IntKind.bits]
  simp
  omega
def WritePost (Z : Sp) (ls : List It) (w : World) (e : Ending) (w' : World) : Prop :=
  ∃ v, e = .returned (.tuple #[v, .int .i64 (writeN Z ls).2.1, .int .i64 ((writeN Z ls).2.2 : Int)]) ∧ MineB w w' v (writeN Z ls).1
theorem WritePost.of {Z : Sp} {ls : List It} {w w' : World} {v : Value} {b : Bs} {z : Int} {i : Nat} (h : writeN Z ls = (b, z, i)) (hm : MineB w w' v b) : WritePost Z ls w (.returned (.tuple #[v, .int .i64 z, .int .i64 (i : Int)])) w' := by
  unfold WritePost; rw [h]; exact ⟨v, rfl, hm⟩
theorem badAt_drop {Z : Sp} {ls : List It} {k : Nat} {x : It} (h : ls[k]? = some x) (ahead : Bs) (i : Nat) : badAt Z ahead i (ls.drop k) = if verdict Z ahead x = 0 then badAt Z x.path (i + 1) (ls.drop (k + 1)) else some (verdict Z ahead x, i) := by
  obtain ⟨h1, h2⟩ := List.getElem?_eq_some_iff.1 h
  rw [List.drop_eq_getElem_cons h1, h2]
  rfl
theorem encs_snoc {Z : Sp} {ls : List It} {k : Nat} {x : It} (h : ls[k]? = some x) : encs Z (ls.take (k + 1)) = encs Z (ls.take k) ++ enc Z x := by
  obtain ⟨h1, h2⟩ := List.getElem?_eq_some_iff.1 h
  rw [List.take_succ_eq_append_getElem h1, h2]
  simp [encs]
theorem encs_cap {Z : Sp} : ∀ (ls : List It) (k : Nat), (encs Z (ls.take k)).length ≤ 21 * k + (ls.map fun x => x.path.length + x.data.length).sum
  | [], k => by simp [encs]
  | x :: ls, 0 => by simp [encs]
  | x :: ls, k + 1 => by
    have ih := encs_cap (Z := Z) ls k
    rw [List.take_succ_cons, encs_cons, List.length_append, enc_len, List.map_cons, List.sum_cons]
    omega
theorem item_cap {ls : List It} {k : Nat} {x : It} (h : ls[k]? = some x) : x.path.length + x.data.length ≤ (ls.map fun x => x.path.length + x.data.length).sum := by
  have := List.mem_of_getElem? h
  clear h
  induction ls with
  | nil => cases this
  | cons y ls ih =>
    rw [List.map_cons, List.sum_cons]
    rcases List.mem_cons.1 this with rfl | h
    · omega
    · have := ih h; omega
set_option maxRecDepth 20000 in
set_option maxHeartbeats 16000000 in
theorem write_any (Z : Sp) (hZ : Z.ok = okP) (A : Option Addr) (n c : Nat) (ls : List It) (m : Int) (w : World) (hl : ItSl w A n ls) (hk : ∀ x ∈ ls, -128 ≤ x.kind ∧ x.kind ≤ 127) (hsz : (ls.map fun x => x.path.length + x.data.length).sum ≤ 16777216) (hn : n ≤ 9223372036854775807) (hm : w.cell? ⟨0, 0, none⟩ = some (.int .i64 m)) :
    Calls Tryd.prog 13 #[.slice A n c] w (WritePost Z ls w) := by
  have HL := Lib.hid hl
  have Hl := Lib.hid hl.1
  have HK := Lib.hid hk
  have HM := Lib.hid hm
  by_cases hbig : 4096 < n
  · have hv : Hid (writeN Z ls = ([], 3, 4096)) := if_pos (by have := Hl.out; omega)
    have hb2 : (4096 : Int) < (n : Int) := by omega
    clear hl hk hm hsz
    go_enter Tryd.func13, Tryd.ntmps13
    go_wp2_with fail
    go_ret3
    exact WritePost.of hv.out (MineB.nil (Ext.refl _))
  have hb2 : ¬ ((4096 : Int) < (n : Int)) := by omega
  have hv : Hid (writeN Z ls = match badAt Z [] 0 ls with | some (e, i) => ([], e, i) | none => (allB Z ls, 0, 0)) := if_neg (by have := Hl.out; omega)
  have HSz : Hid (True ∧ (ls.map fun x => x.path.length + x.data.length).sum ≤ 16777216) := ⟨trivial, hsz⟩
  have hn4 : n ≤ 4096 := by omega
  clear hl hk hm hsz hbig
  obtain ⟨i, hi, hz, hsz5, hby⟩ := info_parts Tryd.info5
  have kc := fun (w : World) (C : Array Value) (n c : Nat) => Lib.run_convert_bytes_const (P := Tryd.prog) w 26 5 C n c Tryd.underlying26 Tryd.underlying5
  go_enter Tryd.func13, Tryd.ntmps13
  go_wp2_with fail
  clear kc
  have HM0 : Hid (MineF w (w.alloc (.cells #[.int .u8 77, .int .u8 84, .int .u8 65, .int .u8 49] 5 (4, 5))) (.slice (some ⟨w.heap.size, 0, none⟩) 4 4) headB) := Lib.hid ⟨(Ext.refl _).alloc _, .inr ⟨_, rfl, by decide, rfl, fun _ => ⟨w.heap.size, 0, rfl, by simp, fun k ch hk => by
    rw [cell_of_row _ _ _ _ 5 (4, 5) (heap_alloc_new w _)]
    rcases k with _ | _ | _ | _ | k
    · cases hk; rfl
    · cases hk; rfl
    · cases hk; rfl
    · cases hk; rfl
    · cases hk⟩⟩, fun k hk => by simp [Value.ownBlock] at hk; omega⟩
  go_loopw [5, 6, 17] (fun bv av iv wr => ∃ (k : Nat) (A' : Option Addr) (n' c' : Nat) (a : Bs), k ≤ n ∧ iv = .int .i64 (k : Int) ∧ bv = .slice A' n' c' ∧ av = .string (mkB a) ∧ n' = (headB ++ encs Z (ls.take k)).length ∧ MineF w wr (.slice A' n' c') (headB ++ encs Z (ls.take k)) ∧ badAt Z [] 0 ls = badAt Z a k (ls.drop k)) (fun _ _ iv _ => n - (intOf iv).toNat)
  case atStart => exact ⟨0, _, 4, 4, [], Nat.zero_le _, rfl, rfl, rfl, rfl, HM0.out, rfl⟩
  case round =>
    obtain ⟨k, A', n', c', a, hk, rfl, rfl, rfl, hn', hmi, hbd⟩ := hrel
    have HMi := Lib.hid hmi
    have Hn' := Lib.hid hn'
    have Hbd := Lib.hid hbd
    have hcap := encs_cap (Z := Z) ls k
    have hn5 : n' ≤ 17000000 := by
      have h0 := HSz.out.2
      have h1 : (headB ++ encs Z (ls.take k)).length = 4 + (encs Z (ls.take k)).length := by rw [List.length_append]; rfl
      omega
    clear hmi hn' hbd hcap HM0
    by_cases hlt : k < n
    · obtain ⟨b, off, x, D, dc, rfl, hbw, hx, c0', c1', c2', hbs⟩ := HL.out.at hlt
      have c0 := (HMi.out.1.cell (p := ⟨b, off + k * 3, none⟩) hbw).trans c0'
      have c1 := (HMi.out.1.cell (p := ⟨b, off + k * 3 + 1, none⟩) hbw).trans c1'
      have c2 := (HMi.out.1.cell (p := ⟨b, off + k * 3 + 2, none⟩) hbw).trans c2'
      clear c0' c1' c2' hbw
      have Hx := Lib.hid hx
      have Hbs := Lib.hid hbs
      obtain ⟨hk1, hk2⟩ := HK.out x (List.mem_of_getElem? hx)
      have hxs := item_cap hx
      have hx5 : x.path.length + x.data.length ≤ 16777216 := by have := HSz.out.2; omega
      obtain ⟨X, hX⟩ : ∃ X : Obj, X = .cells #[.string (mkB x.path), .int .i8 x.kind, .slice D x.data.length dc] 50 := ⟨_, rfl⟩
      have Hi8 : Hid (ItAt (wr.alloc X) wr.heap.size (.string (mkB x.path)) x.kind (.slice D x.data.length dc)) := Lib.hid (by rw [hX]; exact heap_alloc_new wr _)
      have HX := Lib.hid hX
      have Hst := Lib.hid (badAt_drop (Z := Z) hx a k)
      clear hx hbs hX
      by_cases h1 : 4194304 < x.data.length
      · have h1' : (4194304 : Int) < (x.data.length : Int) := by omega
        have hval : Hid (writeN Z ls = ([], 3, k)) := Lib.hid (by rw [hv.out, Hbd.out, Hst.out]; unfold verdict; rw [if_pos h1]; rfl)
        obtain ⟨q0, q1, q2, -⟩ := Hi8.out.cells
        rw [HX.out] at q0 q1 q2
        clear h1
        go_wp2_with fail
        go_ret3
        exact WritePost.of hval.out (MineB.nil (HMi.out.1.alloc _))
      have h1' : ¬ ((4194304 : Int) < (x.data.length : Int)) := by omega
      obtain ⟨q0, q1, q2, -⟩ := Hi8.out.cells
      rw [HX.out] at q0 q1 q2
      obtain ⟨H, hH⟩ : ∃ H, holdsN x.kind = H := ⟨_, rfl⟩
      have HH := Lib.hid hH
      clear hH
      go_wp2_with fail
      rw [← HX.out]
      have k0 : ∀ wx, Ext (wr.alloc X) wx → wx.cell? ⟨wr.heap.size, 0, none⟩ = some (.string (mkB x.path)) := fun wx hx => ((Hi8.out.ext hx).cells).1
      have k1 : ∀ wx, Ext (wr.alloc X) wx → wx.cell? ⟨wr.heap.size, 1, none⟩ = some (.int .i8 x.kind) := fun wx hx => ((Hi8.out.ext hx).cells).2.1
      have k2 : ∀ wx, Ext (wr.alloc X) wx → wx.cell? ⟨wr.heap.size, 2, none⟩ = some (.slice D x.data.length dc) := fun wx hx => ((Hi8.out.ext hx).cells).2.2.1
      clear q0 q1 q2
      refine region_lin (fun wx => Ext (wr.alloc X) wx) 100000 [(0, 3), (1, 0), (2, 3), (3, 3), (4, 0), (5, 1), (6, 3), (7, 3), (8, 3), (9, 0), (10, 3), (11, 1), (12, 3), (13, 3)] ?_ (by kernel_rfl) (by kernel_rfl) ?_ (fun _ _ _ _ _ h => h) ((Ext.refl _).drew) ?_
      rotate_left
      (simp only [planOps, List.mapM_cons, List.mapM_nil, List.getElem?_toArray, List.getElem?_cons_zero, List.getElem?_cons_succ, Option.map_some, Option.bind_eq_bind, Option.bind_some, Option.pure_def]; rfl)
      intro wd hwd hxd
      repeat (first | (refine lin_take ?_ (by rfl) (fun wx hx => ?_) ?_; rotate_left; go_simp; (with_reducible rfl); try simp only [Act.put, List.setIfInBounds_toArray, List.set_cons_zero, List.set_cons_succ]) | (refine lin_skip (by rfl) ?_; try simp only [Act.put, List.setIfInBounds_toArray, List.set_cons_zero, List.set_cons_succ]) | (refine lin_take3 ?_ (by rfl) (fun wx hx => ?_) ?_; rotate_left; go_simp; (with_reducible rfl); try simp only [Act.put, List.setIfInBounds_toArray, List.set_cons_zero, List.set_cons_succ]) | (refine lin_skip3 (by rfl) ?_; try simp only [Act.put, List.setIfInBounds_toArray, List.set_cons_zero, List.set_cons_succ]))
      refine lin_run (by rfl) (fun KC hK => ?_)
      go_simp
      refine (holds_any _ _).mono ?_
      rintro e w3 ⟨rfl, rfl⟩
      rw [HH.out]
      refine hK _ _ hwd ?_
      clear hK
      try simp only [Act.put, List.setIfInBounds_toArray, List.set_cons_zero, List.set_cons_succ]
      have HD := Lib.hid hwd
      clear hwd hxd
      cases hgt : decide (H < (x.data.length : Int)) with
      | true =>
        have hval : Hid (writeN Z ls = ([], 2, k)) := Lib.hid (by
          rw [hv.out, Hbd.out, Hst.out]
          have : verdict Z a x = 2 := by unfold verdict; rw [if_neg h1, if_pos (.inl (by rw [HH.out]; exact of_decide_eq_true hgt))]
          rw [this]; rfl)
        repeat (first | (refine lin_take ?_ (by rfl) (fun wx hx => ?_) ?_; rotate_left; go_simp; (with_reducible rfl); try simp only [Act.put, List.setIfInBounds_toArray, List.set_cons_zero, List.set_cons_succ]) | (refine lin_skip (by rfl) ?_; try simp only [Act.put, List.setIfInBounds_toArray, List.set_cons_zero, List.set_cons_succ]) | (refine lin_take3 ?_ (by rfl) (fun wx hx => ?_) ?_; rotate_left; go_simp; (with_reducible rfl); try simp only [Act.put, List.setIfInBounds_toArray, List.set_cons_zero, List.set_cons_succ]) | (refine lin_skip3 (by rfl) ?_; try simp only [Act.put, List.setIfInBounds_toArray, List.set_cons_zero, List.set_cons_succ]))
        refine lin_pass (by rfl) HD.out ?_
        try simp only [Act.put, List.setIfInBounds_toArray, List.set_cons_zero, List.set_cons_succ]
        repeat (first | (refine lin_take ?_ (by rfl) (fun wx hx => ?_) ?_; rotate_left; go_simp; (with_reducible rfl); try simp only [Act.put, List.setIfInBounds_toArray, List.set_cons_zero, List.set_cons_succ]) | (refine lin_skip (by rfl) ?_; try simp only [Act.put, List.setIfInBounds_toArray, List.set_cons_zero, List.set_cons_succ]) | (refine lin_take3 ?_ (by rfl) (fun wx hx => ?_) ?_; rotate_left; go_simp; (with_reducible rfl); try simp only [Act.put, List.setIfInBounds_toArray, List.set_cons_zero, List.set_cons_succ]) | (refine lin_skip3 (by rfl) ?_; try simp only [Act.put, List.setIfInBounds_toArray, List.set_cons_zero, List.set_cons_succ]))
        refine lin_nil ?_
        clear hgt k0 k1 k2
        go_wp2_with fail
        go_ret3
        exact WritePost.of hval.out (MineB.nil (HMi.out.1.trans (((Ext.refl _).alloc _).trans HD.out)))
      | false =>
        repeat (first | (refine lin_take ?_ (by rfl) (fun wx hx => ?_) ?_; rotate_left; go_simp; (with_reducible rfl); try simp only [Act.put, List.setIfInBounds_toArray, List.set_cons_zero, List.set_cons_succ]) | (refine lin_skip (by rfl) ?_; try simp only [Act.put, List.setIfInBounds_toArray, List.set_cons_zero, List.set_cons_succ]) | (refine lin_take3 ?_ (by rfl) (fun wx hx => ?_) ?_; rotate_left; go_simp; (with_reducible rfl); try simp only [Act.put, List.setIfInBounds_toArray, List.set_cons_zero, List.set_cons_succ]) | (refine lin_skip3 (by rfl) ?_; try simp only [Act.put, List.setIfInBounds_toArray, List.set_cons_zero, List.set_cons_succ]))
        refine lin_run (by rfl) (fun KC hK => ?_)
        go_simp
        refine (cleanp_any x.path a m wd (by omega) (((HMi.out.1.trans (((Ext.refl _).alloc _).trans HD.out)).cell (by have := (World.block_lt_of_cell? w _ HM.out); simpa using this)).trans HM.out)).mono ?_
        rintro e w4 ⟨rfl, hx4⟩
        refine hK _ _ (HD.out.trans hx4) ?_
        have HX4 := Lib.hid (HD.out.trans hx4)
        clear hK hx4 HD
        try simp only [Act.put, List.setIfInBounds_toArray, List.set_cons_zero, List.set_cons_succ]
        cases hok : okP x.path a with
        | false =>
          have hval : Hid (writeN Z ls = ([], 2, k)) := Lib.hid (by
            rw [hv.out, Hbd.out, Hst.out]
            have : verdict Z a x = 2 := by unfold verdict; rw [if_neg h1, if_pos (.inr (by rw [hZ]; exact hok))]
            rw [this]; rfl)
          clear hgt hok k0 k1 k2
          repeat (first | (refine lin_take ?_ (by rfl) (fun wx hx => ?_) ?_; rotate_left; go_simp; (with_reducible rfl); try simp only [Act.put, List.setIfInBounds_toArray, List.set_cons_zero, List.set_cons_succ]) | (refine lin_skip (by rfl) ?_; try simp only [Act.put, List.setIfInBounds_toArray, List.set_cons_zero, List.set_cons_succ]) | (refine lin_take3 ?_ (by rfl) (fun wx hx => ?_) ?_; rotate_left; go_simp; (with_reducible rfl); try simp only [Act.put, List.setIfInBounds_toArray, List.set_cons_zero, List.set_cons_succ]) | (refine lin_skip3 (by rfl) ?_; try simp only [Act.put, List.setIfInBounds_toArray, List.set_cons_zero, List.set_cons_succ]))
          refine lin_nil ?_
          go_wp2_with fail
          go_ret3
          exact WritePost.of hval.out (MineB.nil (HMi.out.1.trans (((Ext.refl _).alloc _).trans HX4.out)))
        | true =>
          have hvz : Hid (verdict Z a x = 0) := Lib.hid (by
            unfold verdict; rw [if_neg h1, if_neg (by
              rintro (h | h)
              · rw [HH.out] at h; exact of_decide_eq_false hgt h
              · rw [hZ, hok] at h; cases h)])
          have Hpl : Hid (1 ≤ x.path.length ∧ x.path.length ≤ 4096) := Lib.hid (okP_len _ _ hok)
          have HI4 : Hid (ItAt w4 wr.heap.size (.string (mkB x.path)) x.kind (.slice D x.data.length dc)) := Lib.hid (Hi8.out.ext HX4.out)
          have HM4 : Hid (MineF w w4 (.slice A' n' c') (headB ++ encs Z (ls.take k))) := Lib.hid (HMi.out.ext (((Ext.refl _).alloc _).trans HX4.out))
          have Hne : Hid (∀ j, (Value.slice A' n' c').ownBlock = some j → j ≠ wr.heap.size) := Lib.hid (fun j hj e => by have := HMi.out.lt j hj; omega)
          have q0 := k0 w4 HX4.out
          clear hgt hok k0 k1 k2 h1
          repeat (first | (refine lin_take ?_ (by rfl) (fun wx hx => ?_) ?_; rotate_left; go_simp; (with_reducible rfl); try simp only [Act.put, List.setIfInBounds_toArray, List.set_cons_zero, List.set_cons_succ]) | (refine lin_skip (by rfl) ?_; try simp only [Act.put, List.setIfInBounds_toArray, List.set_cons_zero, List.set_cons_succ]) | (refine lin_take3 ?_ (by rfl) (fun wx hx => ?_) ?_; rotate_left; go_simp; (with_reducible rfl); try simp only [Act.put, List.setIfInBounds_toArray, List.set_cons_zero, List.set_cons_succ]) | (refine lin_skip3 (by rfl) ?_; try simp only [Act.put, List.setIfInBounds_toArray, List.set_cons_zero, List.set_cons_succ]))
          refine lin_nil ?_
          go_wp2_with fail
          have hkb : IntKind.u8.wrap x.kind = ((kbyte x.kind).toNat : Int) := kbyte_wrap
          have k0 : ∀ wx, ItAt wx wr.heap.size (.string (mkB x.path)) x.kind (.slice D x.data.length dc) → wx.cell? ⟨wr.heap.size, 0, none⟩ = some (.string (mkB x.path)) := fun wx hx => hx.cells.1
          have k1 : ∀ wx, ItAt wx wr.heap.size (.string (mkB x.path)) x.kind (.slice D x.data.length dc) → wx.cell? ⟨wr.heap.size, 1, none⟩ = some (.int .i8 x.kind) := fun wx hx => hx.cells.2.1
          have hpsz : (mkB x.path).size = x.path.length := by show x.path.toArray.size = _; simp
          clear q0
          refine region_lin (fun wx => ItAt wx wr.heap.size (.string (mkB x.path)) x.kind (.slice D x.data.length dc)) 100000 [(0, 3), (1, 3), (2, 0), (3, 3), (6, 3), (7, 0), (8, 3), (10, 3), (11, 0), (4, 1), (5, 1), (9, 1), (12, 1), (13, 3)] ?_ (by kernel_rfl) (by kernel_rfl) ?_ (fun _ _ _ _ _ h => h) ((HI4.out.ext (Ext.refl _).drew)) ?_
          rotate_left
          (simp only [planOps, List.mapM_cons, List.mapM_nil, List.getElem?_toArray, List.getElem?_cons_zero, List.getElem?_cons_succ, Option.map_some, Option.bind_eq_bind, Option.bind_some, Option.pure_def]; rfl)
          intro wd hwd hxd
          repeat (first | (refine lin_take ?_ (by rfl) (fun wx hx => ?_) ?_; rotate_left; go_simp; (with_reducible rfl); try simp only [Act.put, List.setIfInBounds_toArray, List.set_cons_zero, List.set_cons_succ]) | (refine lin_skip (by rfl) ?_; try simp only [Act.put, List.setIfInBounds_toArray, List.set_cons_zero, List.set_cons_succ]) | (refine lin_take3 ?_ (by rfl) (fun wx hx => ?_) ?_; rotate_left; go_simp; (with_reducible rfl); try simp only [Act.put, List.setIfInBounds_toArray, List.set_cons_zero, List.set_cons_succ]) | (refine lin_skip3 (by rfl) ?_; try simp only [Act.put, List.setIfInBounds_toArray, List.set_cons_zero, List.set_cons_succ]))
          refine lin_run (by rfl) (fun KC hK => ?_)
          go_simp
          obtain ⟨L, hL⟩ : ∃ L, headB ++ encs Z (ls.take k) = L := ⟨_, rfl⟩
          have HL0 := Lib.hid hL
          rw [hL] at Hn' HM4
          clear hL
          have HO4 : Hid (OwnF w4 (.slice A' n' c') n' L) := Lib.hid (by have := HM4.out.2.1; rwa [← Hn'.out] at this)
          refine hK _ _ (hwd.ext ((Ext.refl _).alloc _)) ?_
          clear hK
          refine lin_run (by rfl) (fun KC hK => ?_)
          refine wp_append_F (.tmp 46) (.tmp 50) rfl i _ hi hz hsz5 hby rfl (.slice A' n' c') n' L rfl (HO4.out.ext (hxd.alloc _)) (some ⟨wd.heap.size, 0, none⟩) 1 1 [kbyte x.kind] rfl (by decide) (one_byte wd _) (by omega) ?_
          intro v1 w5 ho hg hv'
          have hG5 := Grew.app hg hv'
          have HM5 : Hid (MineB w w5 v1 (L ++ [kbyte x.kind])) := Lib.hid ((HM4.out.ext (hxd.alloc _)).push [kbyte x.kind] rfl (by rw [← Hn'.out]; exact ho) hg hv')
          have HI5 := Lib.hid ((hwd.ext ((Ext.refl wd).alloc (.cells #[.int .u8 ((kbyte x.kind).toNat : Int)] 5))).mod hG5.md (fun e => Hne.out _ e rfl))
          have Hne5 : Hid (∀ j, v1.ownBlock = some j → j ≠ wr.heap.size) := Lib.hid (fun j hj e => by
            rcases hG5.own j hj with h | h
            · exact Hne.out j h e
            · have := hwd.lt; simp at h; omega)
          obtain ⟨A5, c5, rfl, -, -⟩ := ho.form
          clear ho hg hv' hG5
          refine hK _ _ HI5.out ?_
          clear hK hwd hxd HI4 HM4 HO4 Hne
          try simp only [Act.put, List.setIfInBounds_toArray, List.set_cons_zero, List.set_cons_succ]
          refine lin_run (by rfl) (fun KC hK => ?_)
          go_simp
          have hLl : (L ++ [kbyte x.kind]).length = n' + 1 := by rw [List.length_append, ← Hn'.out]; rfl
          refine (told_g w _ (L ++ [kbyte x.kind]) x.path.length 2 w5 HM5.out (.inl rfl) (by have := Hpl.out.2; omega) (by omega)).mono ?_
          rintro e w6 ⟨v2, rfl, hm6, hg6⟩
          have HI6 := Lib.hid (HI5.out.mod hg6.md (fun e => Hne5.out _ e rfl))
          have Hne6 : Hid (∀ j, v2.ownBlock = some j → j ≠ wr.heap.size) := Lib.hid (fun j hj e => by
            rcases hg6.own j hj with h | h
            · exact Hne5.out j h e
            · have := HI5.out.lt; omega)
          have HM6 := Lib.hid hm6
          obtain ⟨L6, hL6⟩ : ∃ l, L ++ [kbyte x.kind] ++ beN 2 x.path.length ++ beN 2 (256 ^ 2 - 1 - x.path.length) = l := ⟨_, rfl⟩
          have hL6l : L6.length = n' + 5 := by rw [← hL6, List.length_append, List.length_append, hLl, beN_len, beN_len]
          have HL6 := Lib.hid hL6
          rw [hL6] at HM6
          obtain ⟨A6, c6, rfl, -⟩ := HM6.out.form
          clear hm6 hg6 hL6 HI5 HM5 Hne5
          refine hK _ _ HI6.out ?_
          clear hK
          try simp only [Act.put, List.setIfInBounds_toArray, List.set_cons_zero, List.set_cons_succ]
          refine lin_run (by rfl) (fun KC hK => ?_)
          refine wp_append_own_str w6 (.tmp 55) (.tmp 57) 26 9 rfl 5 i _ 1 Tryd.underlying26 Tryd.underlying9 hi hz hsz5 hby rfl (.slice A6 L6.length c6) L6.length (u8v L6) rfl HM6.out.2.1 (mkB x.path) rfl (by unfold maxLen; omega) (by omega) ?_
          intro v3 w7 ho hg hv'
          have hG7 := Grew.app hg hv'
          have HM7 : Hid (MineB w w7 v3 (L6 ++ x.path)) := Lib.hid (HM6.out.push x.path hpsz (by rw [byteCells_u8v] at ho; exact ho) hg hv')
          have HI7 := Lib.hid (HI6.out.mod hG7.md (fun e => Hne6.out _ e rfl))
          have Hne7 : Hid (∀ j, v3.ownBlock = some j → j ≠ wr.heap.size) := Lib.hid (fun j hj e => by
            rcases hG7.own j hj with h | h
            · exact Hne6.out j h e
            · have := HI6.out.lt; omega)
          obtain ⟨A7, c7, rfl, -⟩ := HM7.out.form
          clear ho hg hv' hG7 HI6 HM6 Hne6
          refine hK _ _ HI7.out ?_
          clear hK
          try simp only [Act.put, List.setIfInBounds_toArray, List.set_cons_zero, List.set_cons_succ]
          repeat (first | (refine lin_take ?_ (by rfl) (fun wx hx => ?_) ?_; rotate_left; go_simp; (with_reducible rfl); try simp only [Act.put, List.setIfInBounds_toArray, List.set_cons_zero, List.set_cons_succ]) | (refine lin_skip (by rfl) ?_; try simp only [Act.put, List.setIfInBounds_toArray, List.set_cons_zero, List.set_cons_succ]) | (refine lin_take3 ?_ (by rfl) (fun wx hx => ?_) ?_; rotate_left; go_simp; (with_reducible rfl); try simp only [Act.put, List.setIfInBounds_toArray, List.set_cons_zero, List.set_cons_succ]) | (refine lin_skip3 (by rfl) ?_; try simp only [Act.put, List.setIfInBounds_toArray, List.set_cons_zero, List.set_cons_succ]))
          refine lin_nil ?_
          go_wp2_with fail
          obtain ⟨L7, hL7⟩ : ∃ l, L6 ++ x.path = l := ⟨_, rfl⟩
          have hL7l : L7.length = n' + 5 + x.path.length := by rw [← hL7, List.length_append, hL6l]
          have HL7 := Lib.hid hL7
          rw [hL7, hL7l] at HM7 Hne7
          clear hL7
          have k2 : ∀ wx, ItAt wx wr.heap.size (.string (mkB x.path)) x.kind (.slice D x.data.length dc) → wx.cell? ⟨wr.heap.size, 2, none⟩ = some (.slice D x.data.length dc) := fun wx hx => hx.cells.2.2.1
          clear k0 k1
          refine region_lin (fun wx => ItAt wx wr.heap.size (.string (mkB x.path)) x.kind (.slice D x.data.length dc)) 100000 [(0, 3), (1, 3), (2, 0), (3, 3), (5, 3), (6, 0), (4, 1), (7, 1), (8, 3)] ?_ (by kernel_rfl) (by kernel_rfl) ?_ (fun _ _ _ _ _ h => h) ((HI7.out.ext (Ext.refl _).drew)) ?_
          rotate_left
          (simp only [planOps, List.mapM_cons, List.mapM_nil, List.getElem?_toArray, List.getElem?_cons_zero, List.getElem?_cons_succ, Option.map_some, Option.bind_eq_bind, Option.bind_some, Option.pure_def]; rfl)
          intro wdb hwdb hxdb
          repeat (first | (refine lin_take ?_ (by rfl) (fun wx hx => ?_) ?_; rotate_left; go_simp; (with_reducible rfl); try simp only [Act.put, List.setIfInBounds_toArray, List.set_cons_zero, List.set_cons_succ]) | (refine lin_skip (by rfl) ?_; try simp only [Act.put, List.setIfInBounds_toArray, List.set_cons_zero, List.set_cons_succ]) | (refine lin_take3 ?_ (by rfl) (fun wx hx => ?_) ?_; rotate_left; go_simp; (with_reducible rfl); try simp only [Act.put, List.setIfInBounds_toArray, List.set_cons_zero, List.set_cons_succ]) | (refine lin_skip3 (by rfl) ?_; try simp only [Act.put, List.setIfInBounds_toArray, List.set_cons_zero, List.set_cons_succ]))
          refine lin_run (by rfl) (fun KC hK => ?_)
          go_simp
          refine (told_g w _ L7 x.data.length 4 wdb (HM7.out.ext hxdb) (.inr rfl) (by omega) (by omega)).mono ?_
          rintro e w8 ⟨v4, rfl, hm8, hg8⟩
          have HI8 := Lib.hid (hwdb.mod hg8.md (fun e => Hne7.out _ e rfl))
          have Hne8 : Hid (∀ j, v4.ownBlock = some j → j ≠ wr.heap.size) := Lib.hid (fun j hj e => by
            rcases hg8.own j hj with h | h
            · exact Hne7.out j h e
            · have := hwdb.lt; omega)
          have HM8 := Lib.hid hm8
          obtain ⟨L8, hL8⟩ : ∃ l, L7 ++ beN 4 x.data.length ++ beN 4 (256 ^ 4 - 1 - x.data.length) = l := ⟨_, rfl⟩
          have hL8l : L8.length = n' + 13 + x.path.length := by rw [← hL8, List.length_append, List.length_append, hL7l, beN_len, beN_len]; omega
          have HL8 := Lib.hid hL8
          rw [hL8] at HM8
          obtain ⟨A8, c8, rfl, -⟩ := HM8.out.form
          clear hm8 hg8 hL8 HI7 HM7 Hne7
          refine hK _ _ HI8.out ?_
          clear hK hwdb hxdb
          try simp only [Act.put, List.setIfInBounds_toArray, List.set_cons_zero, List.set_cons_succ]
          refine lin_run (by rfl) (fun KC hK => ?_)
          refine wp_append_own_any w8 (.tmp 63) (.tmp 65) 26 rfl 5 i _ 1 1 Tryd.underlying26 hi hz hsz5 hby rfl (by decide) (.slice A8 L8.length c8) L8.length (u8v L8) rfl HM8.out.2.1 D x.data.length dc (u8v x.data) rfl (by rw [u8v_len, Nat.mul_one]) (Hbs.out.ext HM8.out.1).news (u8v_one _) (by unfold maxLen; omega) (by omega) ?_
          intro v5 w9 ho hg hv'
          have HM9 : Hid (MineB w w9 v5 (L8 ++ x.data)) := Lib.hid (HM8.out.push x.data rfl ho hg hv')
          have hG9 := Grew.app hg hv'
          have HI9 := Lib.hid (HI8.out.mod hG9.md (fun e => Hne8.out _ e rfl))
          obtain ⟨A9, c9, rfl, -, -⟩ := ho.form
          clear ho hg hv' hG9
          refine hK _ _ HI9.out ?_
          clear hK
          try simp only [Act.put, List.setIfInBounds_toArray, List.set_cons_zero, List.set_cons_succ]
          repeat (first | (refine lin_take ?_ (by rfl) (fun wx hx => ?_) ?_; rotate_left; go_simp; (with_reducible rfl); try simp only [Act.put, List.setIfInBounds_toArray, List.set_cons_zero, List.set_cons_succ]) | (refine lin_skip (by rfl) ?_; try simp only [Act.put, List.setIfInBounds_toArray, List.set_cons_zero, List.set_cons_succ]) | (refine lin_take3 ?_ (by rfl) (fun wx hx => ?_) ?_; rotate_left; go_simp; (with_reducible rfl); try simp only [Act.put, List.setIfInBounds_toArray, List.set_cons_zero, List.set_cons_succ]) | (refine lin_skip3 (by rfl) ?_; try simp only [Act.put, List.setIfInBounds_toArray, List.set_cons_zero, List.set_cons_succ]))
          refine lin_nil ?_
          obtain ⟨L9, hL9⟩ : ∃ l, L8 ++ x.data = l := ⟨_, rfl⟩
          have HL9 : Hid (L9 = L ++ bodyB x) := Lib.hid (by rw [← hL9, ← HL8.out, ← HL7.out, ← HL6.out]; simp [bodyB])
          have hL9l : L9.length = L8.length + x.data.length := by rw [← hL9, List.length_append]
          rw [hL9] at HM9
          obtain ⟨n9, hn9⟩ : ∃ m, n' + 13 + x.path.length + x.data.length = m := ⟨_, rfl⟩
          have hL9n : L8.length + x.data.length = n9 := by omega
          have HL9l : Hid (L9.length = n9) := Lib.hid (hL9l.trans hL9n)
          have hb9 : n' + 13 < n9 := by have := Hpl.out.1; omega
          have hb9' : n9 ≤ 40000000 := by omega
          have hL8b : True ∧ n9 = n' + 13 + x.path.length + x.data.length := ⟨trivial, hn9.symm⟩
          have HL8b := Lib.hid hL8b
          rw [hL9n] at HM9 ⊢
          rw [hL8l, hn9]
          obtain ⟨g9, off9, rfl, hg9⟩ : ∃ g off, A9 = some ⟨g, off, none⟩ ∧ g < w9.heap.size := by
            obtain ⟨A0, cap, hv0, -, hp⟩ := HM9.out.2.1.form
            injection hv0 with h1 h2 h3
            subst h1
            exact hp (by rw [HL9l.out]; omega)
          have hc9 : n9 ≤ c9 := by
            obtain ⟨A0, cap, hv0, h2, -⟩ := HM9.out.2.1.form
            injection hv0 with _ _ h3
            rw [HL9l.out] at h2
            omega
          have hcn : ¬ c9 = n' := by omega
          clear hL9 hL9l hL9n hn9 hL8b hL8l hL7l hL6l hLl HL8 HL7 HL6 k2 HM8 Hne8 HI8
          go_wp2_with fail
          have hbl : L9.length = n9 := HL9l.out
          have HPt : Hid (BySl w9 (some ⟨g9, off9 + n', none⟩) (n9 - n') (bodyB x)) := Lib.hid (by
            have h1 := (HM9.out.2.1.bytes (by rw [HL9l.out])).part (i := n') (k := n9 - n') (by omega)
            have h2 : (L9.drop n').take (n9 - n') = bodyB x := by
              rw [HL9.out, List.drop_left' Hn'.out.symm]
              apply List.take_of_length_le
              have := congrArg List.length HL9.out
              rw [List.length_append, hbl, ← Hn'.out] at this
              omega
            rwa [h2] at h1)
          have HSm : Hid (True ∧ sumB Z (bodyB x) < 18446744073709551616) := ⟨trivial, sumB_lt _⟩
          clear hbl
          refine (sum_any Z (some ⟨g9, off9 + n', none⟩) _ _ (bodyB x) w9 HPt.out (by omega)).mono ?_
          rintro e w10 ⟨rfl, rfl⟩
          obtain ⟨su, hsu⟩ : ∃ z, sumB Z (bodyB x) = z := ⟨_, rfl⟩
          have Hsu := Lib.hid hsu
          rw [hsu] at HSm ⊢
          clear hsu
          go_wp2_with fail
          refine (put_g w _ L9 su 8 w9 HM9.out HSm.out.2 (by decide) (by rw [HL9l.out]; omega)).mono ?_
          rintro e w10 ⟨v6, rfl, hm10, -⟩
          obtain ⟨L10, hL10⟩ : ∃ l, L9 ++ beN 8 su = l := ⟨_, rfl⟩
          have HL10 : Hid (L10 = headB ++ encs Z (ls.take (k + 1))) := Lib.hid (by rw [encs_snoc Hx.out, ← List.append_assoc, HL0.out, ← hL10, HL9.out, ← Hsu.out, enc, List.append_assoc])
          rw [hL10] at hm10
          clear hL10
          have HM10 := Lib.hid hm10
          obtain ⟨A10, c10, rfl, -⟩ := hm10.form
          have Hbd2 : Hid (badAt Z [] 0 ls = badAt Z x.path (k + 1) (ls.drop (k + 1))) := Lib.hid (by rw [Hbd.out, Hst.out, if_pos hvz.out])
          clear hm10
          go_wp2_with fail
          go_roundw
          case rel => exact ⟨k + 1, _, _, _, x.path, by omega, by go_num, rfl, rfl, by rw [HL10.out], by have := HM10.out.full; rwa [HL10.out] at this ⊢, Hbd2.out⟩
          case measure => simp [intOf]; omega
    · have hkn : k = n := by omega
      have hval : Hid (writeN Z ls = (allB Z ls, 0, 0)) := Lib.hid (by
        rw [hv.out, Hbd.out, List.drop_eq_nil_of_le (by rw [hkn, Hl.out]; exact Nat.le_refl _)]
        rfl)
      obtain ⟨L, hL⟩ : ∃ L, headB ++ encs Z (ls.take k) = L := ⟨_, rfl⟩
      have HL0 : Hid (L = headB ++ encs Z ls) := Lib.hid (by rw [← hL, List.take_of_length_le (by rw [hkn, Hl.out]; exact Nat.le_refl _)])
      rw [hL] at Hn' HMi
      clear hL hkn
      have HO : Hid (OwnF wr (.slice A' n' c') n' L) := Lib.hid (by have := HMi.out.2.1; rwa [← Hn'.out] at this)
      go_wp2_with (at_builtin; refine wpList_append_F rfl (.tmp 74) (.tmp 75) rfl i _ hi hz hsz5 hby rfl (.slice A' n' c') n' L rfl (HO.out.ext ((Ext.refl _).alloc _)) (some ⟨wr.heap.size, 0, none⟩) 1 1 [255] rfl (by decide) (one_byte wr 255) (by omega) ?_)
      intro v1 w2 ho hg hv'
      have HM2 : Hid (MineB w w2 v1 (L ++ [255])) := Lib.hid ((HMi.out.ext ((Ext.refl _).alloc _)).push [255] rfl (by rw [← Hn'.out]; exact ho) hg (by simpa using hv'))
      obtain ⟨L2, hL2⟩ : ∃ l, L ++ [255] = l := ⟨_, rfl⟩
      have HL2 := Lib.hid hL2
      have HL2l : Hid (L2.length = n' + 1) := Lib.hid (by rw [← hL2, List.length_append, Hn'.out]; rfl)
      rw [hL2] at HM2
      obtain ⟨A2, c2, rfl, -⟩ := HM2.out.form
      clear ho hg hv' hL2
      have k3 : IntKind.u64.wrap (n : Int) = (n : Int) := IntWalk.u64_in _ (by omega)
      go_wp2_with fail
      clear k3
      refine (put_g w _ L2 n 4 w2 HM2.out (by omega) (by decide) (by rw [HL2l.out]; omega)).mono ?_
      rintro e w3 ⟨v3, rfl, hm3, -⟩
      obtain ⟨L3, hL3⟩ : ∃ l, L2 ++ beN 4 n = l := ⟨_, rfl⟩
      have HL3 : Hid (L3 = headB ++ encs Z ls ++ endB ls.length) := Lib.hid (by rw [← hL3, ← HL2.out, HL0.out, Hl.out]; simp [endB])
      have HL3l : Hid (L3.length = n' + 5) := Lib.hid (by rw [← hL3, List.length_append, HL2l.out, beN_len])
      rw [hL3] at hm3
      have HM3 := Lib.hid hm3
      obtain ⟨A3, c3, rfl, HB3⟩ := hm3.form
      have HB3' := Lib.hid HB3
      clear hm3 hL3 HB3
      go_wp2_with fail
      have HSm : Hid (True ∧ sumB Z L3 < 18446744073709551616) := ⟨trivial, sumB_lt _⟩
      refine (sum_any Z A3 _ _ L3 w3 HB3'.out (by rw [HL3l.out]; omega)).mono ?_
      rintro e w4 ⟨rfl, rfl⟩
      obtain ⟨su, hsu⟩ : ∃ z, sumB Z L3 = z := ⟨_, rfl⟩
      have Hsu := Lib.hid hsu
      rw [hsu] at HSm ⊢
      clear hsu
      go_wp2_with fail
      refine (put_g w _ L3 su 8 w3 HM3.out HSm.out.2 (by decide) (by rw [HL3l.out]; omega)).mono ?_
      rintro e w4 ⟨v4, rfl, hm4, -⟩
      have HM4 : Hid (MineB w w4 v4 (allB Z ls)) := Lib.hid (by
        rw [← Hsu.out, HL3.out] at hm4
        exact hm4)
      clear hm4
      go_wp2_with fail
      go_ret3
      exact WritePost.of hval.out HM4.out
end Go.Proofs.YtcpnnkkfndgpjaaDoor
