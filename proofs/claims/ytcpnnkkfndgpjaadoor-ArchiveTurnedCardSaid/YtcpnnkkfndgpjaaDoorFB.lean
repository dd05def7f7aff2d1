/- Feed: what a piece gives. -/
import Derived.Test.YtcpnnkkfndgpjaaDoorFA
import Derived.Test.YtcpnnkkfndgpjaaDoorWA
namespace Go.Proofs.YtcpnnkkfndgpjaaDoor
open Go.RowKit

theorem Own.ty {w : World} {e : TypeId} {size : Nat} {v : Value} {n : Nat} {xs : List Value} (h : Own w e size v n xs) {k : Nat} (hk : v.ownBlock = some k) : ∃ cur, w.heap[k]? = some (.cells cur e (0, 0)) := by
  rcases h.2 with ⟨rfl, _⟩ | ⟨g, off, cap, cur, rfl, hg, _⟩
  · simp [Value.ownBlock] at hk
  · simp [Value.ownBlock] at hk; subst hk; exact ⟨cur, hg⟩
theorem Own.apart {w : World} {e e' : TypeId} {s s' : Nat} {v v' : Value} {n n' : Nat} {xs xs' : List Value} (h : Own w e s v n xs) (h' : Own w e' s' v' n' xs') (he : e ≠ e') {k : Nat} (hk : v.ownBlock = some k) : v'.ownBlock ≠ some k := fun hk' => by
  obtain ⟨c1, h1⟩ := h.ty hk
  obtain ⟨c2, h2⟩ := h'.ty hk'
  rw [h1] at h2
  injection h2 with h2
  injection h2 with _ h2
  exact he h2
/-- An item and where its bytes lie. -/
structure IV where
  x : It
  D : Option Addr
  dc : Nat
def IV.dat (i : IV) : Value := .slice i.D i.x.data.length i.dc
def itv (vs : List IV) : List Value := vs.flatMap fun i => [.string (mkB i.x.path), .int .i8 i.x.kind, i.dat]
theorem itv_len (vs : List IV) : (itv vs).length = vs.length * 3 := by
  induction vs with
  | nil => rfl
  | cons a l ih => show (_ :: _ :: _ :: itv l).length = _; simp [ih]; omega
theorem itv_app (a b : List IV) : itv (a ++ b) = itv a ++ itv b := by simp [itv]
theorem itv_one (vs : List IV) : ∀ u ∈ itv vs, u.oneCell' = true := by
  intro u hu
  obtain ⟨i, -, hi⟩ := List.mem_flatMap.1 hu
  simp only [List.mem_cons, List.not_mem_nil, or_false] at hi
  rcases hi with rfl | rfl | rfl <;> rfl
/-- Items that came into being since w0: their row, their bytes. -/
structure ItMine (w0 w : World) (v : Value) (vs : List IV) : Prop where
  row : Own w 50 3 v vs.length (itv vs)
  new : ∀ k, v.ownBlock = some k → w0.heap.size ≤ k
  dat : ∀ i ∈ vs, Own w 5 1 i.dat i.x.data.length (u8v i.x.data)
  dnew : ∀ i ∈ vs, ∀ k, i.dat.ownBlock = some k → w0.heap.size ≤ k
section
variable {w0 w w' : World} {v : Value} {vs : List IV}
theorem ItMine.nil (w0 w : World) : ItMine w0 w (.slice none 0 0) [] := ⟨Own.nil _ _ _, fun k h => by simp [Value.ownBlock] at h, fun _ h => by simp at h, fun _ h => by simp at h⟩
theorem ItMine.mod {S : Nat → Prop} (h : ItMine w0 w v vs) (hm : Mod S w w') (h1 : ∀ k, v.ownBlock = some k → ¬ S k) (h2 : ∀ i ∈ vs, ∀ k, i.dat.ownBlock = some k → ¬ S k) : ItMine w0 w' v vs :=
  ⟨h.row.mod hm h1, h.new, fun i hi => (h.dat i hi).mod hm (h2 i hi), h.dnew⟩
theorem ItMine.ext (h : ItMine w0 w v vs) (hm : Ext w w') : ItMine w0 w' v vs := h.mod hm (fun _ _ f => f) (fun _ _ _ _ f => f)
end
theorem ItMine.other {S : Nat → Prop} {w0 w w' : World} {v : Value} {vs : List IV} (h : ItMine w0 w v vs) (hm : Mod S w w') (hS : ∀ k, S k → ∃ cs t, w.heap[k]? = some (.cells cs t (0, 0)) ∧ t ≠ 50 ∧ t ≠ 5) : ItMine w0 w' v vs :=
  h.mod hm (fun k hk hs => by
    obtain ⟨cs, t, h1, h2, -⟩ := hS k hs
    obtain ⟨cur, h3⟩ := h.row.ty hk
    rw [h1] at h3; injection h3 with h3; injection h3 with _ h3; exact h2 h3) (fun i hi k hk hs => by
    obtain ⟨cs, t, h1, -, h2⟩ := hS k hs
    obtain ⟨cur, h3⟩ := (h.dat i hi).ty hk
    rw [h1] at h3; injection h3 with h3; injection h3 with _ h3; exact h2 h3)
theorem tornW_cells {w : World} {r e n c : Nat} {A : Option Addr} {z : Rd} (hr : RdAt w r A n c z false) {u : Value} (he : w.heap[e]? = some (.cells #[u] 27 (0, 0))) :
    RdAt (tornW w r e) r none 0 0 { z with done := false, b := [] } true ∧ Mod (fun k => k = r ∨ k = e) w (tornW w r e) ∧ (tornW w r e).cell? ⟨e, 0, none⟩ = some (.int .i64 260) := by
  have hre : e ≠ r := by rintro rfl; have := hr.blk; rw [he] at this; injection this with this; injection this with _ this; exact absurd this (by decide)
  have hel : e < w.heap.size := (Array.getElem?_eq_some_iff.1 he).1
  have h1 := ((hr.setTorn true).setDone false).setB (A' := none) (n' := 0) (c' := 0) (b' := []) (Own.nil _ _ _) (by simp [Value.ownBlock])
  have hm1 : Mod (fun k => k = r) w (((w.setCell ⟨r, 5, none⟩ (.bool true)).setCell ⟨r, 6, none⟩ (.bool false)).setCell ⟨r, 0, none⟩ (.slice none 0 0)) := ((mod_set w r 5 _).trans (mod_set _ r 6 _) (fun _ _ e => e)).trans (mod_set _ r 0 _) (fun _ _ e => e)
  have he1 := (hm1.block e hel hre).trans he
  unfold tornW
  generalize ((w.setCell ⟨r, 5, none⟩ (.bool true)).setCell ⟨r, 6, none⟩ (.bool false)).setCell ⟨r, 0, none⟩ (.slice none 0 0) = W at *
  have hm2 : Mod (fun k => k = e) W ((W.setCell ⟨e, 0, none⟩ (.int .i64 260)).alloc (.cells #[] 65)) := (mod_set W e 0 _).alloc _
  refine ⟨h1.mod hm2 (fun h => hre h.symm) (fun k hk => by simp [Value.ownBlock] at hk), (hm1.mono (fun _ _ h => .inl h)).trans hm2 (fun _ _ h => .inr h), ?_⟩
  have h3 := heap_setCell_at (i := 0) he1 (.int .i64 260)
  have h4 : ((W.setCell ⟨e, 0, none⟩ (.int .i64 260)).alloc (.cells #[] 65)).heap[e]? = some (.cells (#[u].setIfInBounds 0 (.int .i64 260)) 27 (0, 0)) := (Below.heap_alloc _ _ _ (Array.getElem?_eq_some_iff.1 h3).1).trans h3
  exact cell_of_row _ _ 0 _ 27 (0, 0) h4
theorem stp_len {Z : Sp} {x z : Rd} {o : Option It} (h : stp Z x = .go o z) : z.b.length + (if o.isSome then 21 else 0) ≤ x.b.length := by
  unfold stp at h
  split at h
  · split at h
    · split at h
      · cases h; simp
      · cases h
    · cases h
  · split at h
    · split at h <;> cases h
    · split at h
      · cases h
      · cases h
      · rename_i hf
        cases h
        have := front_len Z hf
        simp
        omega
      · cases h; simp
theorem stp_fine {Z : Sp} {x z : Rd} {o : Option It} (h : stp Z x = .go o z) (hx : x.Fine) : z.Fine := by
  unfold stp at h
  split at h
  · rename_i hb
    split at h
    · split at h
      · cases h; exact ⟨fun _ => rfl, hx.items, fnv_lt _ _ hx.sum⟩
      · cases h
    · cases h
  · rename_i hb
    have hb' : x.begun = true := by simpa using hb
    split at h
    · split at h <;> cases h
    · split at h
      · cases h
      · cases h
      · rename_i hf
        cases h
        refine ⟨fun _ => hb', ?_, fnv_lt _ _ hx.sum⟩
        have : x.items < 4096 := by
          unfold front at hf
          split at hf
          · cases hf
          · split at hf
            · exfalso; unfold frontEnd at hf; (repeat' split at hf) <;> cases hf
            · unfold frontItem at hf
              split at hf
              · cases hf
              · omega
        show x.items + 1 ≤ 4096
        omega
      · cases h; exact ⟨fun _ => hb', hx.items, fnv_lt _ _ hx.sum⟩
theorem Quiet.len {Z : Sp} {x y : Rd} (h : Quiet Z x y) : y.b.length ≤ x.b.length := by
  induction h with
  | refl => exact Nat.le_refl _
  | step h _ ih => have := stp_len h; simp at this; omega
theorem Quiet.fine {Z : Sp} {x y : Rd} (h : Quiet Z x y) (hx : x.Fine) : y.Fine := by
  induction h with
  | refl => exact hx
  | step h _ ih => exact ih (stp_fine h hx)
/-- What Feed leaves: the items, the reader. -/
def FeedPost (Z : Sp) (x : Rd) (r : Nat) (A : Option Addr) (n c : Nat) (w : World) (e : Ending) (w' : World) : Prop :=
  ∃ (vs : List IV) (q : Option Rd) (v : Value), Runs Z x (vs.map (·.x)) q ∧ ItMine w w' v vs ∧ Mod (fun k => k = r ∨ (Value.slice A n c).ownBlock = some k) w w' ∧
    ((∃ y A' n' c', q = some y ∧ e = .returned (.tuple #[v, .int .i64 0]) ∧ RdAt w' r A' n' c' y false ∧ y.Fine ∧ n' ≤ x.b.length ∧ (∀ k, (Value.slice A' n' c').ownBlock = some k → (Value.slice A n c).ownBlock = some k ∨ w.heap.size ≤ k) ∧
        (∀ i ∈ vs, ∀ k, i.dat.ownBlock = some k → (Value.slice A' n' c').ownBlock ≠ some k)) ∨
     (∃ y, q = none ∧ e = .returned (.tuple #[v, .int .i64 260]) ∧ RdAt w' r none 0 0 y true ∧ y.done = false))
/-- What holds at each turn of Feed's loop. -/
structure FeedInv (Z : Sp) (x : Rd) (r : Nat) (A : Option Addr) (n c : Nat) (w : World) (g : Nat) (v : Value) (wx : World) (vs : List IV) (y : Rd) (A' : Option Addr) (n' c' : Nat) : Prop where
  its : ItMine w wx v vs
  rd : RdAt wx r A' n' c' y false
  fine : y.Fine
  fuel : y.b.length ≤ g
  cap : vs.length * 21 + y.b.length ≤ x.b.length
  md : Mod (fun k => k = r ∨ (Value.slice A n c).ownBlock = some k) w wx
  hp : wx.heap[w.heap.size]? = some (.cells #[.pointer (some ⟨r, 0, none⟩)] 38 (0, 0))
  he : wx.heap[w.heap.size + 1]? = some (.cells #[.int .i64 0] 27 (0, 0))
  own : ∀ k, (Value.slice A' n' c').ownBlock = some k → (Value.slice A n c).ownBlock = some k ∨ w.heap.size + 2 ≤ k
  dat : ∀ i ∈ vs, ∀ k, i.dat.ownBlock = some k → (Value.slice A' n' c').ownBlock ≠ some k
  runs : ∀ l q, Runs Z y l q → Runs Z x (vs.map (·.x) ++ l) q
theorem Tryd.info50 : (Tryd.prog.info? 50).map (fun i => (i.zero, i.size, i.bytes)) = some (some (.agg #[.string ⟨#[]⟩, .int .i8 0, .slice none 0 0]), 3, 48) := by kernel_rfl
theorem feed_res (a : Act) (d : Option Tmp) (v : Value) (h4 : d ≠ some 4) (h5 : d ≠ some 5) : results Tryd.f18 (a.put d v).tmps = results Tryd.f18 a.tmps := by
  cases d with
  | none => rfl
  | some d =>
    have e4 : d ≠ 4 := fun e => h4 (by rw [e])
    have e5 : d ≠ 5 := fun e => h5 (by rw [e])
    have g4 : (a.put (some d) v).tmps[4]? = a.tmps[4]? := Array.getElem?_setIfInBounds_ne e4
    have g5 : (a.put (some d) v).tmps[5]? = a.tmps[5]? := Array.getElem?_setIfInBounds_ne e5
    simp [results, Tryd.results18, g4, g5]
theorem feed_hQ {ops : Array Oper} {K : Act → World → Prop} {R : Ending → World → Prop} (h : ops.all (fun o => decide (o.dst ≠ some 4) && decide (o.dst ≠ some 5)) = true) (i : Nat) (o : Oper) (ho : ops[i]? = some o) (c : List PanicEntry) (a : Act) (v : Value) (w : World)
    (hq : (Exit.then K (bodyPostD Tryd.prog Tryd.f18 R)) (.panic c) (a.put o.dst v) w) : (Exit.then K (bodyPostD Tryd.prog Tryd.f18 R)) (.panic c) a w := by
  have hm := Array.all_eq_true'.1 h o (Array.mem_of_getElem? ho)
  simp only [Bool.and_eq_true, decide_eq_true_eq] at hm
  have e := feed_res a o.dst v hm.1 hm.2
  have hd : (a.put o.dst v).defers = a.defers := by cases o.dst <;> rfl
  have hq' : Leaves Tryd.prog Tryd.f18 (a.put o.dst v).tmps R (a.put o.dst v).defers (.panicking c) w := hq
  rw [hd] at hq'
  exact leaves_same e R _ _ w hq'
set_option maxRecDepth 20000 in
set_option maxHeartbeats 4000000 in
theorem feed_any (Z : Sp) (hZ : Z.ok = okP) (r : Nat) (A B : Option Addr) (n c m d : Nat) (x : Rd) (l : Bs) (mm : Int) (w : World) (hr : RdAt w r A n c x false) (hx : x.Fine) (hl : BySl w B m l) (hn : n + m ≤ 1073741824) (hm : w.cell? ⟨0, 0, none⟩ = some (.int .i64 mm)) (h0 : (Value.slice A n c).ownBlock ≠ some 0) :
    Calls Tryd.prog 18 #[.pointer (some ⟨r, 0, none⟩), .slice B m d] w (FeedPost Z (x.on l) r A n c w) := by
  have HR := Lib.hid hr
  have HF := Lib.hid hx
  have HL := Lib.hid hl
  have HM := Lib.hid hm
  obtain ⟨d0, d1, d2, d3, d4, d5, d6, f0⟩ := hr.cells
  have hlen := hr.len
  have hrw : r < w.heap.size := hr.lt
  have Hlen := Lib.hid hlen
  have hmf : ∀ (fn : Fn) (first cap : Array Value) (w : World), (Instr.makeFunc fn first cap).run Tryd.prog w = .ok (.func fn first cap) w := fun _ _ _ _ => rfl
  clear hr hx hl hm hlen f0
  go_enter_defers Tryd.func18, Tryd.ntmps18
  go_wp2_with fail
  have HX1 : Hid (Ext w ((w.alloc (.cells #[.pointer (some ⟨r, 0, none⟩)] 38)).alloc (.cells #[.int .i64 0] 27))) := Lib.hid (((Ext.refl _).alloc _).alloc _)
  have HP1 : Hid (((w.alloc (.cells #[.pointer (some ⟨r, 0, none⟩)] 38)).alloc (.cells #[.int .i64 0] 27)).heap[w.heap.size]? = some (.cells #[.pointer (some ⟨r, 0, none⟩)] 38 (0, 0))) := Lib.hid (by
    rw [Below.heap_alloc _ _ _ (by simp)]; exact heap_alloc_new w _)
  have HE1 : Hid (((w.alloc (.cells #[.pointer (some ⟨r, 0, none⟩)] 38)).alloc (.cells #[.int .i64 0] 27)).heap[w.heap.size + 1]? = some (.cells #[.int .i64 0] 27 (0, 0))) := Lib.hid (by
    have := heap_alloc_new (w.alloc (.cells #[.pointer (some ⟨r, 0, none⟩)] 38)) (.cells #[.int .i64 0] 27)
    simpa using this)
  obtain ⟨w1, hw1⟩ : ∃ W, (w.alloc (.cells #[.pointer (some ⟨r, 0, none⟩)] 38)).alloc (.cells #[.int .i64 0] 27) = W := ⟨_, rfl⟩
  rw [hw1] at HX1 HP1 HE1 ⊢
  have hs1 : w1.heap.size = w.heap.size + 2 := by rw [← hw1]; simp
  have Hs1 := Lib.hid hs1
  clear hw1 hs1
  have HR1 := Lib.hid (HR.out.ext HX1.out)
  obtain ⟨i, hi, hz, hsz5, hby⟩ := info_parts Tryd.info5
  have kP : ∀ wx : World, (wx.cell? ⟨w.heap.size, 0, none⟩ = some (.pointer (some ⟨r, 0, none⟩)) ∧ wx.cell? ⟨r, 0, none⟩ = some (.slice A n c)) → wx.cell? ⟨w.heap.size, 0, none⟩ = some (.pointer (some ⟨r, 0, none⟩)) := fun _ h => h.1
  have kR : ∀ wx : World, (wx.cell? ⟨w.heap.size, 0, none⟩ = some (.pointer (some ⟨r, 0, none⟩)) ∧ wx.cell? ⟨r, 0, none⟩ = some (.slice A n c)) → wx.cell? ⟨r, 0, none⟩ = some (.slice A n c) := fun _ h => h.2
  refine region_linD (fun wx : World => wx.cell? ⟨w.heap.size, 0, none⟩ = some (.pointer (some ⟨r, 0, none⟩)) ∧ wx.cell? ⟨r, 0, none⟩ = some (.slice A n c)) 9 [(0, 0), (1, 0), (2, 3), (3, 3), (4, 0), (5, 3), (6, 1), (7, 3), (8, 3), (9, 2)] ?_ (by kernel_rfl) (by kernel_rfl) ?_ (feed_hQ (by kernel_rfl)) (⟨cell_of_row _ _ 0 _ 38 (0, 0) HP1.out, HR1.out.cells.1⟩) ?_
  rotate_left
  (simp only [planOps, List.mapM_cons, List.mapM_nil, List.getElem?_toArray, List.getElem?_cons_zero, List.getElem?_cons_succ, Option.map_some, Option.bind_eq_bind, Option.bind_some, Option.pure_def]; rfl)
  intro wd hwd hxd
  repeat (first | (refine lin_take ?_ (by rfl) (fun wx hx => ?_) ?_; rotate_left; go_simp; (with_reducible rfl); try simp only [Act.put, List.setIfInBounds_toArray, List.set_cons_zero, List.set_cons_succ]) | (refine lin_skip (by rfl) ?_; try simp only [Act.put, List.setIfInBounds_toArray, List.set_cons_zero, List.set_cons_succ]) | (refine lin_take3 ?_ (by rfl) (fun wx hx => ?_) ?_; rotate_left; go_simp; (with_reducible rfl); try simp only [Act.put, List.setIfInBounds_toArray, List.set_cons_zero, List.set_cons_succ]) | (refine lin_skip3 (by rfl) ?_; try simp only [Act.put, List.setIfInBounds_toArray, List.set_cons_zero, List.set_cons_succ]))
  have HRd := Lib.hid (HR1.out.ext hxd)
  have HPd : Hid (wd.heap[w.heap.size]? = some (.cells #[.pointer (some ⟨r, 0, none⟩)] 38 (0, 0))) := Lib.hid ((hxd.block _ (by have := Hs1.out; omega) (fun f => f)).trans HP1.out)
  have HEd : Hid (wd.heap[w.heap.size + 1]? = some (.cells #[.int .i64 0] 27 (0, 0))) := Lib.hid ((hxd.block _ (by have := Hs1.out; omega) (fun f => f)).trans HE1.out)
  have HXd := Lib.hid (HX1.out.trans hxd)
  have hsd : w.heap.size + 2 ≤ wd.heap.size := by have := Hs1.out; have := hxd.size; omega
  have Hwd := Lib.hid hwd
  clear hwd hxd HP1 HE1 HX1
  refine lin_run (by rfl) (fun KC hK => ?_)
  refine wp_append_own_any wd (.tmp 19) (.tmp 20) 26 rfl 5 i _ 1 1 Tryd.underlying26 hi hz hsz5 hby rfl (by decide) (.slice A n c) n (u8v x.b) rfl HRd.out.own B m d (u8v l) rfl (by rw [u8v_len, Nat.mul_one, HL.out.1]) (HL.out.ext HXd.out).news (u8v_one _) (by unfold maxLen; omega) (by omega) ?_
  intro v2 w2 ho hg hv'
  have hng : ∀ k, (Value.slice A n c).ownBlock = some k → k < w.heap.size := fun k hk => HR.out.own.lt k hk
  have hmd : Mod (fun k => (Value.slice A n c).ownBlock = some k) wd w2 := (Mod.refl _ _).grown hg (fun k e _ => e)
  have hgr : (Value.slice A n c).ownBlock ≠ some r := HR.out.apart
  have HX2 : Hid (Mod (fun k => (Value.slice A n c).ownBlock = some k) w w2) := Lib.hid (Mod.trans (T := fun k => (Value.slice A n c).ownBlock = some k) (Mod.mono HXd.out (fun _ _ f => f.elim)) hmd (fun _ _ e => e))
  have HP2 : Hid (w2.heap[w.heap.size]? = some (.cells #[.pointer (some ⟨r, 0, none⟩)] 38 (0, 0))) := Lib.hid ((hmd.block _ (by omega) (fun e => by have := hng _ e; omega)).trans HPd.out)
  have HE2 : Hid (w2.heap[w.heap.size + 1]? = some (.cells #[.int .i64 0] 27 (0, 0))) := Lib.hid ((hmd.block _ (by omega) (fun e => by have := hng _ e; omega)).trans HEd.out)
  have HB2 : Hid (w2.heap[r]? = some (.cells #[.slice A n c, .int .u64 (x.sum : Int), .bool x.begun, .int .i64 (x.items : Int), .string ⟨x.ahead.toArray⟩, .bool false, .bool x.done] 63 (0, 0))) := Lib.hid ((hmd.block _ (by omega) hgr).trans HRd.out.blk)
  have HV2 : Hid (∀ k, v2.ownBlock = some k → (Value.slice A n c).ownBlock = some k ∨ w.heap.size + 2 ≤ k) := Lib.hid (fun k hk => by
    rcases hv' with h | h
    · exact .inl (h ▸ hk)
    · rw [h] at hk; injection hk with hk; exact .inr (by omega))
  have hs2 : w.heap.size + 2 ≤ w2.heap.size := Nat.le_trans hsd hmd.size
  have HO2 : Hid (Own w2 5 1 v2 (n + m) (u8v (x.on l).b)) := Lib.hid (by show Own w2 5 1 v2 (n + m) (u8v (x.b ++ l)); rw [u8v_app]; exact ho)
  obtain ⟨A2, c2, rfl, -, -⟩ := ho.form
  clear ho hg hv' hmd HRd HPd HEd
  refine hK _ _ ⟨cell_of_row _ _ 0 _ 38 (0, 0) HP2.out, cell_of_row _ _ 0 _ 63 (0, 0) HB2.out⟩ ?_
  clear hK
  try simp only [Act.put, List.setIfInBounds_toArray, List.set_cons_zero, List.set_cons_succ]
  repeat (first | (refine lin_take ?_ (by rfl) (fun wx hx => ?_) ?_; rotate_left; go_simp; (with_reducible rfl); try simp only [Act.put, List.setIfInBounds_toArray, List.set_cons_zero, List.set_cons_succ]) | (refine lin_skip (by rfl) ?_; try simp only [Act.put, List.setIfInBounds_toArray, List.set_cons_zero, List.set_cons_succ]) | (refine lin_take3 ?_ (by rfl) (fun wx hx => ?_) ?_; rotate_left; go_simp; (with_reducible rfl); try simp only [Act.put, List.setIfInBounds_toArray, List.set_cons_zero, List.set_cons_succ]) | (refine lin_skip3 (by rfl) ?_; try simp only [Act.put, List.setIfInBounds_toArray, List.set_cons_zero, List.set_cons_succ]))
  have fR : w2.frozen? ⟨r, 0, none⟩ = false := by have := HB2.out; simp [World.frozen?, this]
  have kR2 : w2.cell? ⟨r, 0, none⟩ = some (.slice A n c) := cell_of_row _ _ 0 _ 63 (0, 0) HB2.out
  refine lin_last (by rfl) (fun KC hK => ?_)
  go_simp
  refine hK _ _ trivial ?_
  clear hK
  have hr2 : (Value.slice A2 (n + m) c2).ownBlock ≠ some r := fun e => by
    rcases HV2.out r e with h | h
    · exact hgr h
    · omega
  have hms : Mod (fun k => k = r) w2 (w2.setCell ⟨r, 0, none⟩ (.slice A2 (n + m) c2)) := mod_set w2 r 0 _
  have HI3 : Hid (FeedInv Z (x.on l) r A n c w (x.on l).b.length (.slice none 0 0) (w2.setCell ⟨r, 0, none⟩ (.slice A2 (n + m) c2)) [] (x.on l) A2 (n + m) c2) := Lib.hid
    ⟨ItMine.nil _ _, ⟨heap_setCell_at HB2.out _, HO2.out.mod hms (fun k hk e => hr2 (e ▸ hk)), hr2⟩, ⟨HF.out.begun, HF.out.items, HF.out.sum⟩, Nat.le_refl _, by simp,
      (HX2.out.mono (fun _ _ h => .inr h)).trans hms (fun i _ e => .inl e), (hms.block _ (by omega) (by omega)).trans HP2.out, (hms.block _ (by omega) (by omega)).trans HE2.out, HV2.out, fun _ h => by simp at h, fun l q h => h⟩
  obtain ⟨N, hN⟩ : ∃ N, (x.on l).b.length = N := ⟨_, rfl⟩
  have hNb : N ≤ 1073741824 := by
    rw [← hN]; show (x.b ++ l).length ≤ _; rw [List.length_append, ← Hlen.out, ← HL.out.1]; exact hn
  rw [hN] at HI3
  have HN := Lib.hid hN
  clear hN hms hr2 kR2 fR HB2 HE2 HP2 HO2 HV2 HX2 hng kP kR Hwd HXd HR1
  obtain ⟨w3, hw3⟩ : ∃ W, w2.setCell ⟨r, 0, none⟩ (.slice A2 (n + m) c2) = W := ⟨_, rfl⟩
  rw [hw3] at HI3 ⊢
  clear hw3
  go_wp2_with fail
  go_loopg [4] N (fun g lv wx => ∃ (LA : Option Addr) (ln lc : Nat) (vs : List IV) (y : Rd) (A' : Option Addr) (n' c' : Nat), lv = .slice LA ln lc ∧ FeedInv Z (x.on l) r A n c w g lv wx vs y A' n' c')
  case atStart => exact ⟨none, 0, 0, [], _, _, _, _, rfl, HI3.out⟩
  case round =>
    obtain ⟨LA, ln, lc, vs, y, A', n', c', rfl, hinv⟩ := hrel
    have HI := Lib.hid hinv
    have cP := cell_of_row _ _ 0 _ 38 (0, 0) hinv.hp
    clear hinv HI3
    simp only [List.getElem?_toArray, List.getElem?_cons_zero] at cP
    go_wp2_with fail
    have hnle : n' ≤ 1073741824 := by have h1 := HI.out.cap; have h2 := HI.out.rd.len; have h3 := HN.out; omega
    have hp0 : ¬ ((0 : Nat) = r ∨ (Value.slice A n c).ownBlock = some 0) := fun h => by
      rcases h with h | h
      · exact HR.out.ne0 HM.out h.symm
      · exact h0 h
    refine (step_any Z hZ r A' n' c' y mm wr HI.out.rd HI.out.fine hnle ((HI.out.md.cell (p := ⟨0, 0, none⟩) (World.block_lt_of_cell? w _ HM.out) hp0).trans HM.out)).mono ?_
    intro e w4 hst
    obtain ⟨hmd4, y', hqu, hst⟩ := hst
    have hsz4 := HI.out.md.size
    have hlp : w.heap.size + 1 < wr.heap.size := (Array.getElem?_eq_some_iff.1 HI.out.he).1
    have HP4 : Hid (w4.heap[w.heap.size]? = some (.cells #[.pointer (some ⟨r, 0, none⟩)] 38 (0, 0))) := Lib.hid ((hmd4.block _ (by omega) (by omega)).trans HI.out.hp)
    have HE4 : Hid (w4.heap[w.heap.size + 1]? = some (.cells #[.int .i64 0] 27 (0, 0))) := Lib.hid ((hmd4.block _ (by omega) (by omega)).trans HI.out.he)
    have HM4 : Hid (Mod (fun k => k = r ∨ (Value.slice A n c).ownBlock = some k) w w4) := Lib.hid (HI.out.md.trans hmd4 (fun _ _ h => .inl h))
    have HT4 : Hid (ItMine w w4 (.slice LA ln lc) vs) := Lib.hid (HI.out.its.other hmd4 (fun k hk => ⟨_, 63, hk ▸ HI.out.rd.blk, by decide, by decide⟩))
    have Hqu := Lib.hid hqu
    have hs4 : w.heap.size + 1 < w4.heap.size := Nat.lt_of_lt_of_le hlp hmd4.size
    clear hmd4 hqu cP
    rcases hst with ⟨rfl, hst, A4, n4, c4, z, hrd⟩ | ⟨hst, ⟨pp, kk, rfl⟩, A4, n4, c4, hrd, hob⟩ | ⟨it, z, hst, D, dc, A4, n4, c4, rfl, hrd, hob, hown, hnew⟩
    · obtain ⟨hr5, hm5, hc5⟩ := tornW_cells hrd HE4.out
      refine leaves_cons (f := 37) (args := #[.pointer (some ⟨w.heap.size, 0, none⟩), .pointer (some ⟨w.heap.size + 1, 0, none⟩)]) (by simp) (by simp [go_sem]) ?_
      refine (catch_torn w.heap.size (w.heap.size + 1) r n4 c4 A4 z 0 [] w4 (cell_of_row _ _ 0 _ 38 (0, 0) HP4.out) HE4.out hrd).mono ?_
      rintro e u' w5 ⟨rfl, rfl, rfl⟩
      refine ⟨.tuple #[.slice LA ln lc, .int .i64 260], by simp [results, Tryd.results18, go_sem, hc5], ?_⟩
      have hT5 := HT4.out.other hm5 (fun k hk => by
        rcases hk with rfl | rfl
        · exact ⟨_, 63, hrd.blk, by decide, by decide⟩
        · exact ⟨_, 27, HE4.out, by decide, by decide⟩)
      exact ⟨vs, none, _, by have := HI.out.runs [] none (Hqu.out.runs (.tear hst)); rwa [List.append_nil] at this, hT5, HM4.out.trans hm5 (fun k hk h => by rcases h with h | h; exact .inl h; omega), .inr ⟨_, rfl, rfl, hr5, rfl⟩⟩
    · have Hst := Lib.hid hst
      have Hrd := Lib.hid hrd
      have Hob := Lib.hid hob
      have cE := cell_of_row _ _ 0 _ 27 (0, 0) HE4.out
      have fE : w4.frozen? ⟨w.heap.size + 1, 0, none⟩ = false := by have := HE4.out; simp [World.frozen?, this]
      simp only [List.getElem?_toArray, List.getElem?_cons_zero] at cE
      clear hst hrd hob
      go_wp2_with fail
      have hm5 : Mod (fun k => k = w.heap.size + 1) w4 ((w4.setCell ⟨w.heap.size + 1, 0, none⟩ (.int .i64 0)).alloc (.cells #[.string pp, .int .i8 kk, .slice none 0 0] 50)) := (mod_set w4 (w.heap.size + 1) 0 _).alloc _
      have hc5 : ((w4.setCell ⟨w.heap.size + 1, 0, none⟩ (.int .i64 0)).alloc (.cells #[.string pp, .int .i8 kk, .slice none 0 0] 50)).cell? ⟨w.heap.size + 1, 0, none⟩ = some (.int .i64 0) := by
        have h3 := heap_setCell_at (i := 0) HE4.out (.int .i64 0)
        exact cell_of_row _ _ 0 _ 27 (0, 0) ((Below.heap_alloc _ _ _ (Array.getElem?_eq_some_iff.1 h3).1).trans h3)
      refine leaves_cons (f := 37) (args := #[.pointer (some ⟨w.heap.size, 0, none⟩), .pointer (some ⟨w.heap.size + 1, 0, none⟩)]) (by simp) (by simp [go_sem]) ?_
      refine (catch_idle w.heap.size (w.heap.size + 1) _).mono ?_
      rintro e u' w5 ⟨rfl, rfl, rfl⟩
      refine ⟨.tuple #[.slice LA ln lc, .int .i64 0], by simp [results, Tryd.results18, go_sem, hc5], ?_⟩
      have hT5 := HT4.out.other hm5 (fun k hk => ⟨_, 27, hk ▸ HE4.out, by decide, by decide⟩)
      have hk5 : ∀ k, (Value.slice A4 n4 c4).ownBlock = some k → k ≠ w.heap.size + 1 := fun k hk e => by
        obtain ⟨cur, h3⟩ := Hrd.out.own.ty hk
        rw [e, HE4.out] at h3; injection h3 with h3; injection h3 with _ h3; exact absurd h3 (by decide)
      refine ⟨vs, some y', _, by have := HI.out.runs [] (some y') (Hqu.out.runs (.stop Hst.out)); rwa [List.append_nil] at this, hT5, HM4.out.trans hm5 (fun k hk h => by omega), .inl ⟨y', A4, n4, c4, rfl, rfl, Hrd.out.mod hm5 (by omega) hk5, Hqu.out.fine HI.out.fine, ?_, fun k hk => ?_, fun i hi k hk => ?_⟩⟩
      · have h1 := Hrd.out.len; have h2 := Hqu.out.len; have h3 := HI.out.cap; omega
      · rw [Hob.out] at hk
        rcases HI.out.own k hk with h | h
        · exact .inl h
        · exact .inr (by omega)
      · rw [Hob.out]; exact HI.out.dat i hi k hk
    · have Hst := Lib.hid hst
      have Hrd := Lib.hid hrd
      have Hob := Lib.hid hob
      have Hown := Lib.hid hown
      have Hnew := Lib.hid hnew
      obtain ⟨i50, hi50, hz50, hsz50, hby50⟩ := info_parts Tryd.info50
      have hcapv : vs.length ≤ 1073741824 := by have h1 := HI.out.cap; have h3 := HN.out; omega
      have hlv : ln = vs.length := by
        have h1 := HT4.out.row
        obtain ⟨_, _, hv0, -, -⟩ := h1.form
        injection hv0
      subst hlv
      have hsl := stp_len hst
      simp only [Option.isSome_some, if_true] at hsl
      have Hsl := Lib.hid hsl
      clear hst hrd hob hown hnew hsl
      have hnc : ∀ (j : Nat) u, (itv [⟨it, D, dc⟩])[j]? = some u → ((w4.alloc (.cells #[.string ⟨it.path.toArray⟩, .int .i8 it.kind, .slice D it.data.length dc] 50)).alloc (.cells #[.string ⟨it.path.toArray⟩, .int .i8 it.kind, .slice D it.data.length dc] 50)).cell? ((⟨w4.heap.size + 1, 0, none⟩ : Addr).add j) = some u := fun j u hu => by
        have e1 : (w4.alloc (.cells #[.string ⟨it.path.toArray⟩, .int .i8 it.kind, .slice D it.data.length dc] 50)).heap.size = w4.heap.size + 1 := by simp
        rw [← e1]
        exact new_cells _ [.string ⟨it.path.toArray⟩, .int .i8 it.kind, .slice D it.data.length dc] 50 j u hu
      have Hnc := Lib.hid hnc
      clear hnc
      go_wp2_with (at_builtin; refine wpList_append_own_any _ rfl (.tmp 32) (.tmp 34) 22 rfl 50 i50 _ 3 48 Tryd.underlying22 hi50 hz50 hsz50 hby50 rfl (by decide) (.slice LA vs.length lc) vs.length (itv vs) rfl (HT4.out.row.ext (((Ext.refl _).alloc _).alloc _)) (some ⟨w4.heap.size + 1, 0, none⟩) 1 1 (itv [⟨it, D, dc⟩]) rfl rfl (fun _ => ⟨_, rfl, Hnc.out⟩) (itv_one _) (by unfold maxLen; omega) (by have h1 := HI.out.cap; have h3 := HN.out; omega) ?_)
      intro v' w9 ho hg hv'
      have hx4 : Ext w4 ((w4.alloc (.cells #[.string ⟨it.path.toArray⟩, .int .i8 it.kind, .slice D it.data.length dc] 50)).alloc (.cells #[.string ⟨it.path.toArray⟩, .int .i8 it.kind, .slice D it.data.length dc] 50)) := ((Ext.refl _).alloc _).alloc _
      have hm9 : Mod (fun k => (Value.slice LA vs.length lc).ownBlock = some k) w4 w9 := Mod.trans (T := fun k => (Value.slice LA vs.length lc).ownBlock = some k) (Mod.mono hx4 (fun _ _ f => f.elim)) ((Mod.refl _ _).grown hg (fun k e _ => e)) (fun _ _ e => e)
      have hty : ∀ k, (Value.slice LA vs.length lc).ownBlock = some k → ∀ cs t, w4.heap[k]? = some (.cells cs t (0, 0)) → t = 50 := fun k hk cs t ht => by
        obtain ⟨cur, h3⟩ := HT4.out.row.ty hk
        rw [ht] at h3; injection h3 with h3; injection h3
      have hdk : ∀ (u : Value) (j : Nat) (xs : List Value), Own w4 5 1 u j xs → ∀ k, u.ownBlock = some k → ¬ (Value.slice LA vs.length lc).ownBlock = some k := fun u j xs hu k hk h => by
        obtain ⟨cur, h3⟩ := hu.ty hk
        exact absurd (hty k h _ _ h3) (by decide)
      have hnew9 : ∀ k, v'.ownBlock = some k → w.heap.size ≤ k := fun k hk => by
        rcases hv' with h | h
        · exact HT4.out.new k (h ▸ hk)
        · rw [h] at hk; injection hk with hk; first | omega | (simp at hk; omega)
      have HI9 : Hid (FeedInv Z (x.on l) r A n c w (gk - 1) v' w9 (vs ++ [⟨it, D, dc⟩]) z A4 n4 c4) := Lib.hid
        { its := ⟨by rw [List.length_append, itv_app]; exact ho, hnew9, fun i hi => by
            rcases List.mem_append.1 hi with hi | hi
            · exact (HT4.out.dat i hi).mod hm9 (hdk _ _ _ (HT4.out.dat i hi))
            · obtain rfl := List.mem_singleton.1 hi
              exact Hown.out.mod hm9 (hdk _ _ _ Hown.out), fun i hi k hk => by
            rcases List.mem_append.1 hi with hi | hi
            · exact HT4.out.dnew i hi k hk
            · obtain rfl := List.mem_singleton.1 hi
              have := Hnew.out k hk; omega⟩
          rd := Hrd.out.mod hm9 (fun h => absurd (hty _ h _ _ Hrd.out.blk) (by decide)) (hdk _ _ _ Hrd.out.own)
          fine := stp_fine Hst.out (Hqu.out.fine HI.out.fine)
          fuel := by have h1 := Hsl.out; have h2 := Hqu.out.len; have h3 := HI.out.fuel; omega
          cap := by have h1 := Hsl.out; have h2 := Hqu.out.len; have h3 := HI.out.cap; rw [List.length_append, List.length_singleton]; omega
          md := HM4.out.trans hm9 (fun k hk h => by have := HT4.out.new k h; omega)
          hp := (hm9.block _ (by omega) (fun h => absurd (hty _ h _ _ HP4.out) (by decide))).trans HP4.out
          he := (hm9.block _ (by omega) (fun h => absurd (hty _ h _ _ HE4.out) (by decide))).trans HE4.out
          own := fun k hk => by rw [Hob.out] at hk; exact HI.out.own k hk
          dat := fun i hi k hk => by
            rw [Hob.out]
            rcases List.mem_append.1 hi with hi | hi
            · exact HI.out.dat i hi k hk
            · obtain rfl := List.mem_singleton.1 hi
              intro e
              have h1 := Hnew.out k hk
              have h2 := HI.out.rd.own.lt k e
              omega
          runs := fun l' q h => by
            have := HI.out.runs (it :: l') q (Hqu.out.runs (.step (o := some it) Hst.out h))
            simpa using this }
      obtain ⟨LA9, lc9, rfl, -, -⟩ := ho.form
      have hgk : 0 < gk := by have h1 := Hsl.out; have h2 := Hqu.out.len; have h3 := HI.out.fuel; omega
      clear ho hg hv' hx4 hm9 hty hdk hnew9
      go_wp2_with fail
      go_roundg (gk - 1)
      case measure => omega
      case rel => exact ⟨LA9, _, lc9, _, _, _, _, _, rfl, HI9.out⟩
end Go.Proofs.YtcpnnkkfndgpjaaDoor
