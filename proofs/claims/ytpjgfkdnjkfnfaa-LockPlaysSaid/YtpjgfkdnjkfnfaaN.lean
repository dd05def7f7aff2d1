/- New, Held, Waits, Leave. -/
import Derived.Test.YtpjgfkdnjkfnfaaM
namespace Go.Proofs.Ytpjgfkdnjkfnfaa
open Go.RowKit Go.Maps

def NewPost (ty : TypeId) (w : World) (e : Ending) (w' : World) : Prop := e = .returned (.pointer (some ⟨w.heap.size, 0, none⟩)) ∧ Ext w w' ∧ TabS w' ty w.heap.size (fun k => w.heap.size ≤ k) [] []
theorem tab_new (w : World) (ty : TypeId) : TabS (w.alloc (.cells #[.slice none 0 0, .slice none 0 0] ty)) ty w.heap.size (fun k => w.heap.size ≤ k) [] [] :=
  ⟨_, _, ⟨heap_alloc_new w _, Own.nil _ _ _, Own.nil _ _ _, fun k h => by simp [Value.ownBlock] at h, fun l h => by simp at h, fun l h => by simp at h, by simp⟩,
    fun k h => by
      rcases h with h | h | h
      · omega
      all_goals simp [Value.ownBlock] at h⟩
theorem new_any (w : World) : Calls Try.prog 9 #[] w (NewPost 55 w) := by
  go_enter Try.func9, Try.ntmps9
  go_wp2
  go_ret
  exact ⟨rfl, (Ext.refl _).alloc _, tab_new w 55⟩

/-- A list handed out. -/
def OutPost (ls : List Lk) (w : World) (e : Ending) (w' : World) : Prop := ∃ v, e = .returned v ∧ Own w' 29 4 v ls.length (flat ls) ∧ (∀ k, v.ownBlock = some k → w.heap.size ≤ k) ∧ Ext w w'

theorem held_any (t : Nat) (F : Nat → Prop) (H W : List Lk) (w : World) (hT : TabS w 55 t F H W) : Calls Try.prog 11 #[.pointer (some ⟨t, 0, none⟩)] w (OutPost H w) := by
  obtain ⟨hv, wv, ht, hF⟩ := hT
  obtain ⟨A, ch, rfl, -, -⟩ := ht.held.form
  have htl := ht.lt
  have c0 := ht.cell0
  have HtB := Lib.hid ht
  have hfew : H.length ≤ 256 := by have := ht.few; omega
  clear ht hF
  obtain ⟨i, hi, hz, hs, hby⟩ := info_parts Try.info29
  obtain ⟨a1, a2, a3⟩ := HtB.out.held.src
  have A2 := Lib.hid a2
  have A1 := Lib.hid a1
  clear a1 a2 a3
  go_enter Try.func11, Try.ntmps11
  go_wp2_with (at_builtin; refine wpList_append_own_any _ rfl (.const (.slice none 0 0)) (.tmp 8) 25 rfl 29 i _ 4 32 Try.underlying25 hi hz hs hby rfl (by decide) (.slice none 0 0) 0 [] rfl (Own.nil _ _ _) A H.length ch (flat H) rfl A1.out A2.out (flat_one H) (by unfold maxLen; omega) (by omega) ?_)
  intro v' w1 ho hg hv'
  have HP : Hid (OutPost H w (.returned v') w1) := by
    refine ⟨v', rfl, by simpa using ho, fun k hk => ?_, (Ext.refl _).grown hg (fun k h => by simp [Value.ownBlock] at h)⟩
    rcases hv' with h | h
    · rw [h] at hk; simp [Value.ownBlock] at hk
    · rw [h] at hk; injection hk with hk; omega
  clear ho hg hv'
  go_wp2_with fail
  go_ret
  exact HP.out
theorem waits_any (t : Nat) (F : Nat → Prop) (H W : List Lk) (w : World) (hT : TabS w 55 t F H W) : Calls Try.prog 12 #[.pointer (some ⟨t, 0, none⟩)] w (OutPost W w) := by
  obtain ⟨hv, wv, ht, hF⟩ := hT
  obtain ⟨A, ch, rfl, -, -⟩ := ht.waits.form
  have htl := ht.lt
  have c0 := ht.cell1
  have HtB := Lib.hid ht
  have hfew : W.length ≤ 256 := by have := ht.few; omega
  clear ht hF
  obtain ⟨i, hi, hz, hs, hby⟩ := info_parts Try.info29
  obtain ⟨a1, a2, a3⟩ := HtB.out.waits.src
  have A2 := Lib.hid a2
  have A1 := Lib.hid a1
  clear a1 a2 a3
  go_enter Try.func12, Try.ntmps12
  go_wp2_with (at_builtin; refine wpList_append_own_any _ rfl (.const (.slice none 0 0)) (.tmp 8) 25 rfl 29 i _ 4 32 Try.underlying25 hi hz hs hby rfl (by decide) (.slice none 0 0) 0 [] rfl (Own.nil _ _ _) A W.length ch (flat W) rfl A1.out A2.out (flat_one W) (by unfold maxLen; omega) (by omega) ?_)
  intro v' w1 ho hg hv'
  have HP : Hid (OutPost W w (.returned v') w1) := by
    refine ⟨v', rfl, by simpa using ho, fun k hk => ?_, (Ext.refl _).grown hg (fun k h => by simp [Value.ownBlock] at h)⟩
    rcases hv' with h | h
    · rw [h] at hk; simp [Value.ownBlock] at hk
    · rw [h] at hk; injection hk with hk; omega
  clear ho hg hv'
  go_wp2_with fail
  go_ret
  exact HP.out

/-- No table. -/
theorem held_nil (w : World) : Calls Try.prog 11 #[.pointer none] w fun e w' => e = .returned (.slice none 0 0) ∧ Ext w w' := by
  go_enter Try.func11, Try.ntmps11
  go_wp2
  go_ret
  exact ⟨rfl, Ext.refl _⟩
theorem waits_nil (w : World) : Calls Try.prog 12 #[.pointer none] w fun e w' => e = .returned (.slice none 0 0) ∧ Ext w w' := by
  go_enter Try.func12, Try.ntmps12
  go_wp2
  go_ret
  exact ⟨rfl, Ext.refl _⟩
theorem leave_nil (who : Int) (w : World) : Calls Try.prog 24 #[.pointer none, .int .i64 who] w fun e w' => e = .returned (.slice none 0 0) ∧ Ext w w' := by
  go_enter Try.func24, Try.ntmps24
  go_wp2
  go_ret
  exact ⟨rfl, (Ext.refl _).alloc _⟩
theorem free_nil (wa pa na : Int) (sa : Bool) (w : World) : Calls Try.prog 18 #[.pointer none, .agg #[.int .i64 wa, .int .i64 pa, .int .i64 na, .bool sa]] w fun e w' => e = .returned (.tuple #[.slice none 0 0, .int .i64 1]) ∧ Ext w w' := by
  go_enter Try.func18, Try.ntmps18
  go_wp2
  go_ret2
  exact ⟨rfl, (Ext.refl _).alloc _⟩
theorem try_nil (wa pa na : Int) (sa : Bool) (w : World) : Calls Try.prog 17 #[.pointer none, .agg #[.int .i64 wa, .int .i64 pa, .int .i64 na, .bool sa]] w fun e w' => e = .returned (.int .i64 1) ∧ Ext w w' := by
  have q0 : ∀ wx, Ext (w.alloc (.cells #[.int .i64 wa, .int .i64 pa, .int .i64 na, .bool sa] 29)) wx → wx.cell? ⟨w.heap.size, 0, none⟩ = some (.int .i64 wa) := fun wx h => h.cell_new 0
  have q1 : ∀ wx, Ext (w.alloc (.cells #[.int .i64 wa, .int .i64 pa, .int .i64 na, .bool sa] 29)) wx → wx.cell? ⟨w.heap.size, 1, none⟩ = some (.int .i64 pa) := fun wx h => h.cell_new 1
  have q2 : ∀ wx, Ext (w.alloc (.cells #[.int .i64 wa, .int .i64 pa, .int .i64 na, .bool sa] 29)) wx → wx.cell? ⟨w.heap.size, 2, none⟩ = some (.int .i64 na) := fun wx h => h.cell_new 2
  have q3 : ∀ wx, Ext (w.alloc (.cells #[.int .i64 wa, .int .i64 pa, .int .i64 na, .bool sa] 29)) wx → wx.cell? ⟨w.heap.size, 3, none⟩ = some (.bool sa) := fun wx h => h.cell_new 3
  have qs : ∀ wx, Ext (w.alloc (.cells #[.int .i64 wa, .int .i64 pa, .int .i64 na, .bool sa] 29)) wx → w.heap.size < wx.heap.size := fun wx h => h.lt_new
  go_enter Try.func17, Try.ntmps17
  go_wp2_with (go_at_call 26; refine (check_nil _ _ _ _ _).mono ?_; rintro e w1 ⟨rfl, hb1⟩)
  go_ret
  exact ⟨rfl, by repeat (first | assumption | exact Ext.refl _ | exact Mod.refl _ _ | refine Ext.trans ?_ (by assumption) | apply Ext.alloc | apply Ext.drew | apply Ext.drewN)⟩
theorem wait_nil (wa pa na : Int) (sa : Bool) (w : World) : Calls Try.prog 16 #[.pointer none, .agg #[.int .i64 wa, .int .i64 pa, .int .i64 na, .bool sa]] w fun e w' => e = .returned (.tuple #[.bool false, .int .i64 1]) ∧ Ext w w' := by
  go_enter Try.func16, Try.ntmps16
  go_wp2_with (go_at_call 26; refine (check_nil _ _ _ _ _).mono ?_; rintro e w1 ⟨rfl, hb1⟩)
  go_ret2
  exact ⟨rfl, by repeat (first | assumption | exact Ext.refl _ | exact Mod.refl _ _ | refine Ext.trans ?_ (by assumption) | apply Ext.alloc | apply Ext.drew | apply Ext.drewN)⟩

theorem new_cells_at (w : World) (l : List Value) (e : TypeId) (n : Nat) (hn : n = w.heap.size) : ∀ j u, l[j]? = some u → (w.alloc (.cells l.toArray e)).cell? ((⟨n, 0, none⟩ : Addr).add j) = some u := by
  subst hn
  exact new_cells w l e

/-- The ones of others. -/
def others (who : Int) (ls : List Lk) : List Lk := ls.filter fun l => !decide (l.who = who)

set_option maxRecDepth 20000 in
theorem others_any (who : Int) (b0 : Nat) (A : Option Addr) (n c : Nat) (ls : List Lk) (w : World) (hs : LkSl w A n ls) (hn : n ≤ 256) (hw : w.cell? ⟨b0, 0, none⟩ = some (.int .i64 who)) :
    Calls Try.prog 37 #[.slice A n c, .pointer (some ⟨b0, 0, none⟩)] w (OutPost (others who ls) w) := by
  have Hs := Lib.hid hs
  have hb0 := World.block_lt_of_cell? w _ hw
  clear hs
  obtain ⟨i, hi, hz, hsz, hby⟩ := info_parts Try.info29
  go_enter Try.func37, Try.ntmps37
  go_wp2_with fail
  go_loopw [3, 8] (fun o i wr => ∃ (k : Nat) (S : Option Addr) (cs : Nat), k ≤ n ∧ i = .int .i64 k ∧ o = .slice S (others who (ls.take k)).length cs ∧ Own wr 29 4 (.slice S (others who (ls.take k)).length cs) (others who (ls.take k)).length (flat (others who (ls.take k))) ∧ (∀ j, (Value.slice S (others who (ls.take k)).length cs).ownBlock = some j → w.heap.size ≤ j) ∧ Ext w wr) (fun _ i _ => n - (intOf i).toNat)
  case atStart => exact ⟨0, none, 0, Nat.zero_le _, rfl, rfl, Own.nil _ _ _, fun k h => by simp [Value.ownBlock] at h, Ext.refl _⟩
  case round =>
    obtain ⟨k, S, cs, hk, rfl, rfl, ho, hb, hx⟩ := hrel
    have Ho := Lib.hid ho
    have Hb := Lib.hid hb
    have Hx := Lib.hid hx
    have hcw : ∀ wx, Ext wr wx → wx.cell? ⟨b0, 0, none⟩ = some (.int .i64 who) := fun wx h => ((hx.trans h).cell hb0).trans hw
    have ea : ∀ o, Ext wr (wr.alloc o) := fun o => (Ext.refl _).alloc o
    have hbs : b0 < wr.heap.size := by have := hx.size; omega
    have hol : (others who (ls.take k)).length ≤ 256 := by
      have h1 := List.length_filter_le (fun l : Lk => !decide (l.who = who)) (ls.take k)
      have h2 := List.length_take_le k ls
      unfold others
      omega
    clear ho hb hx
    by_cases hlt : k < n
    · obtain ⟨b, off, rfl, hb, hce⟩ := (Hs.out.ext Hx.out).2 (by omega)
      have hkl : k < ls.length := by have := Hs.out.1; omega
      obtain ⟨e1, e2, e3, e4⟩ := hce k ls[k] (List.getElem?_eq_getElem hkl)
      obtain ⟨x, hxe⟩ : ∃ x, ls[k] = x := ⟨_, rfl⟩
      have Hxe := Lib.hid hxe
      have Htk : Hid (others who (ls.take (k + 1)) = others who (ls.take k) ++ (if x.who = who then [] else [x])) := by
        show _ = _
        unfold others
        rw [List.take_succ_eq_append_getElem hkl, List.filter_append, hxe]
        congr 1
        by_cases h : x.who = who <;> simp [h]
      rw [hxe] at e1 e2 e3 e4
      clear hce hxe
      generalize hL : others who (ls.take k) = L at *
      by_cases hxw : x.who = who
      · have hxw' : (x.who != who) = false := by simp [hxw]
        have Hxw := Lib.hid hxw
        clear hxw
        go_wp2_with fail
        go_roundw
        case rel =>
          have h := Htk.out
          rw [if_pos Hxw.out, List.append_nil] at h
          refine ⟨k + 1, S, cs, by omega, by go_num, by rw [h], by rw [h]; exact Ho.out.ext (ea _), by rw [h]; exact Hb.out, Hx.out.trans (ea _)⟩
        case measure => simp [intOf]; omega
      · have hxw' : (x.who != who) = true := by simpa using hxw
        have Hxw := Lib.hid hxw
        clear hxw
        go_wp2_with (at_builtin; go_must (refine wpList_append_own_any _ rfl (.tmp 16) (.tmp 18) 25 rfl 29 i _ 4 32 Try.underlying25 hi hz hsz hby rfl (by decide) (.slice S L.length cs) L.length (flat L) rfl ((Ho.out.ext (ea _)).ext ((Ext.refl _).alloc _)) (some ⟨wr.heap.size + 1, 0, none⟩) 1 1 (Lk.enc x) rfl rfl (fun _ => ⟨_, rfl, new_cells_at _ (Lk.enc x) 29 _ (by simp)⟩) (flat_one [x]) (by unfold maxLen; omega) (by omega) ?_))
        intro v' w1 ho hg hv'
        have HO : Hid (Own w1 29 4 v' (L ++ [x]).length (flat (L ++ [x]))) := flat_snoc ho
        have HB : Hid (∀ j, v'.ownBlock = some j → w.heap.size ≤ j) := fun j hj => by
          rcases hv' with h | h
          · exact Hb.out j (h ▸ hj)
          · rw [h] at hj; injection hj with hj; have := Hx.out.size; have h4 : (wr.alloc (.cells #[.int .i64 x.who, .int .i64 x.pos, .int .i64 x.num, .bool x.sh] 29)).heap.size = wr.heap.size + 1 := by simp
            omega
        have HX : Hid (Ext w w1) := Ext.grown ((Hx.out.trans (ea _)).alloc _) hg (fun j h => Hb.out j h)
        obtain ⟨S', c', rfl, -, -⟩ := ho.form
        clear ho hg hv'
        go_wp2_with fail
        go_roundw
        case rel =>
          have h := Htk.out
          rw [if_neg Hxw.out] at h
          exact ⟨k + 1, S', c', by omega, by go_num, by rw [h]; simp, by rw [h]; have := HO.out; simpa using this, by rw [h]; have := HB.out; simpa using this, HX.out⟩
        case measure => simp [intOf]; omega
    · have hkn : k = n := by omega
      have HP : Hid (OutPost (others who ls) w (.returned (.slice S (others who (ls.take k)).length cs)) wr) := by
        have h1 := Ho.out
        have h2 := Hb.out
        rw [hkn, Hs.out.1, List.take_length] at h1 h2 ⊢
        exact ⟨_, rfl, h1, h2, Hx.out⟩
      clear hkn
      go_wp2_with fail
      go_ret
      exact HP.out

/-- Both lists are replaced by new ones. -/
theorem tab_both {w w2 : World} {ty t hv wv H W v0 v1 H' W'} (h : Tab w ty t hv wv H W) (hty : ty ≠ 29) (hm : Ext w w2) (h0 : Own w2 29 4 v0 H'.length (flat H')) (h1 : Own w2 29 4 v1 W'.length (flat W'))
    (b0 : ∀ k, v0.ownBlock = some k → w.heap.size ≤ k) (b1 : ∀ k, v1.ownBlock = some k → w.heap.size ≤ k) (ap : ∀ k, v0.ownBlock = some k → v1.ownBlock ≠ some k) (hok : ∀ l ∈ H', mayB l = true) (wok : ∀ l ∈ W', mayB l = true) (hfew : H'.length + W'.length ≤ 256) :
    Tab ((w2.setCell ⟨t, 0, none⟩ v0).setCell ⟨t, 1, none⟩ v1) ty t v0 v1 H' W' ∧ (∀ k, Foot t v0 v1 k → Foot t hv wv k ∨ w.heap.size ≤ k) ∧ Mod (Foot t hv wv) w ((w2.setCell ⟨t, 0, none⟩ v0).setCell ⟨t, 1, none⟩ v1) := by
  have h2 := h.ext hm
  have hblk : (w2.setCell ⟨t, 0, none⟩ v0).heap[t]? = some (.cells #[v0, wv] ty (0, 0)) := heap_setCell_at h2.blk v0
  have hmod : Mod (fun k => k = t) w2 ((w2.setCell ⟨t, 0, none⟩ v0).setCell ⟨t, 1, none⟩ v1) := (Mod.setCell (S := fun k => k = t) (Mod.setCell (S := fun k => k = t) (Mod.refl _ _) ⟨t, 0, none⟩ v0 (fun _ => rfl)) ⟨t, 1, none⟩ v1 (fun _ => rfl))
  refine ⟨⟨heap_setCell_at hblk v1, h0.mod hmod (fun k hk e => own_ne h0 h2.blk hty (e ▸ hk)), h1.mod hmod (fun k hk e => own_ne h1 h2.blk hty (e ▸ hk)), ap, hok, wok, hfew⟩, ?_, ?_⟩
  · rintro k (rfl | hk | hk)
    · exact .inl (.inl rfl)
    · exact .inr (b0 k hk)
    · exact .inr (b1 k hk)
  · refine Mod.trans (S := Foot t hv wv) (hm.mono (fun k _ hk => hk.elim)) hmod ?_
    rintro k _ rfl
    exact .inl rfl

def leaveF (who : Int) (H W : List Lk) : List Lk × List Lk × List Lk := onF (others who H) (others who W)
def LeavePost (ty : TypeId) (t : Nat) (F : Nat → Prop) (who : Int) (H W : List Lk) (w : World) (e : Ending) (w' : World) : Prop :=
  ∃ tv, e = .returned tv ∧ TabR w w' ty t F (leaveF who H W).1 (leaveF who H W).2.1 tv (leaveF who H W).2.2
theorem others_mem {who : Int} {ls : List Lk} (h : ∀ l ∈ ls, mayB l = true) : ∀ l ∈ others who ls, mayB l = true := fun l hl => h l ((List.mem_filter.1 hl).1)
theorem others_len (who : Int) (ls : List Lk) : (others who ls).length ≤ ls.length := List.length_filter_le _ _

set_option maxRecDepth 20000 in
set_option maxHeartbeats 1000000 in
theorem leave_any (t : Nat) (F : Nat → Prop) (H W : List Lk) (who : Int) (w : World) (hT : TabS w 55 t F H W) :
    Calls Try.prog 24 #[.pointer (some ⟨t, 0, none⟩), .int .i64 who] w (LeavePost 55 t F who H W w) := by
  obtain ⟨hv, wv, ht, hF⟩ := hT
  obtain ⟨A, ch, rfl, -, -⟩ := ht.held.form
  obtain ⟨C, cw, rfl, -, -⟩ := ht.waits.form
  have htl := ht.lt
  have HtB := Lib.hid ht
  have HF := Lib.hid hF
  have e0 : Ext w (w.alloc (.cells #[.int .i64 who] 3)) := (Ext.refl _).alloc _
  have q0 : ∀ wx, Ext (w.alloc (.cells #[.int .i64 who] 3)) wx → wx.cell? ⟨w.heap.size, 0, none⟩ = some (.int .i64 who) := fun wx h => h.cell_new 0
  have qs : ∀ wx, Ext (w.alloc (.cells #[.int .i64 who] 3)) wx → w.heap.size < wx.heap.size := fun wx h => h.lt_new
  have k0 : ∀ wx, Ext (w.alloc (.cells #[.int .i64 who] 3)) wx → wx.cell? ⟨t, 0, none⟩ = some (.slice A H.length ch) := fun wx h => ((e0.trans h).cell htl).trans HtB.out.cell0
  have k1 : ∀ wx, Ext (w.alloc (.cells #[.int .i64 who] 3)) wx → wx.cell? ⟨t, 1, none⟩ = some (.slice C W.length cw) := fun wx h => ((e0.trans h).cell htl).trans HtB.out.cell1
  have kf : ∀ wx i, Ext (w.alloc (.cells #[.int .i64 who] 3)) wx → wx.frozen? ⟨t, i, none⟩ = false := fun wx i h => ((e0.trans h).frozen htl (fun f => f)).trans (HtB.out.frozen i)
  clear ht hF
  go_enter Try.func24, Try.ntmps24
  go_wp2_with fail
  refine region_lin (fun wx => Ext (w.alloc (.cells #[.int .i64 who] 3)) wx) 16 [(0, 0), (1, 3), (2, 0), (3, 0), (4, 0), (5, 0), (6, 0), (8, 0), (9, 3), (10, 3), (11, 0), (12, 0), (7, 1), (13, 1), (14, 0), (15, 0), (16, 2), (17, 3), (18, 3), (19, 4)] ?_ (by kernel_rfl) (by kernel_rfl) ?_ (fun _ _ _ _ _ h => h) ((Ext.refl _).drew) ?_
  rotate_left
  (simp only [planOps, List.mapM_cons, List.mapM_nil, List.getElem?_toArray, List.getElem?_cons_zero, List.getElem?_cons_succ, Option.map_some, Option.bind_eq_bind, Option.bind_some, Option.pure_def]; rfl)
  intro wd hwd hxd
  repeat (first | (refine lin_take ?_ (by rfl) (fun wx hx => ?_) ?_; rotate_left; go_simp; (with_reducible rfl); try simp only [Act.put, List.setIfInBounds_toArray, List.set_cons_zero, List.set_cons_succ]) | (refine lin_skip (by rfl) ?_; try simp only [Act.put, List.setIfInBounds_toArray, List.set_cons_zero, List.set_cons_succ]) | (refine lin_take3 ?_ (by rfl) (fun wx hx => ?_) ?_; rotate_left; go_simp; (with_reducible rfl); try simp only [Act.put, List.setIfInBounds_toArray, List.set_cons_zero, List.set_cons_succ]))
  refine lin_run (by rfl) (fun K hK => ?_)
  go_simp
  refine (others_any who w.heap.size A H.length ch H wd (LkSl.of_own (HtB.out.held.ext (e0.trans hwd))) (by have := HtB.out.few; omega) (q0 _ hwd)).mono ?_
  rintro e w1 ⟨v0, rfl, ho0, hb0, hx0⟩
  refine hK _ _ (hwd.trans hx0) ?_
  try simp only [Act.put, List.setIfInBounds_toArray, List.set_cons_zero, List.set_cons_succ]
  refine lin_run (by rfl) (fun K2 hK2 => ?_)
  go_simp
  refine (others_any who w.heap.size C W.length cw W w1 (LkSl.of_own (HtB.out.waits.ext (e0.trans (hwd.trans hx0)))) (by have := HtB.out.few; omega) (q0 _ (hwd.trans hx0))).mono ?_
  rintro e w2 ⟨v1, rfl, ho1, hb1, hx1⟩
  have h2 := hwd.trans (hx0.trans hx1)
  refine hK2 _ _ h2 ?_
  have hset := tab_both HtB.out (by decide) (e0.trans h2) (ho0.ext hx1) ho1 (fun k hk => by have := hb0 k hk; have := (e0.trans hwd).size; omega) (fun k hk => by have := hb1 k hk; have := (e0.trans (hwd.trans hx0)).size; omega)
    (fun k hk hk1 => by have := ho0.lt k hk; have := hb1 k hk1; omega) (others_mem HtB.out.hok) (others_mem HtB.out.wok) (by have := HtB.out.few; have := others_len who H; have := others_len who W; omega)
  have Hset := Lib.hid hset
  obtain ⟨A', c', rfl, -, -⟩ := ho0.form
  obtain ⟨C', d', rfl, -, -⟩ := ho1.form
  have c0 := k0 _ h2
  have c1 := k1 _ h2
  have f0 := kf _ 0 h2
  have f1 := kf _ 1 h2
  clear hset ho0 hb0 ho1 hb1 hx0 hx1 k0 k1 kf q0 qs hxd
  try simp only [Act.put, List.setIfInBounds_toArray, List.set_cons_zero, List.set_cons_succ]
  repeat (first | (refine lin_take ?_ (by rfl) (fun wx hx => ?_) ?_; rotate_left; go_simp; (with_reducible rfl); try simp only [Act.put, List.setIfInBounds_toArray, List.set_cons_zero, List.set_cons_succ]) | (refine lin_skip (by rfl) ?_; try simp only [Act.put, List.setIfInBounds_toArray, List.set_cons_zero, List.set_cons_succ]) | (refine lin_take3 ?_ (by rfl) (fun wx hx => ?_) ?_; rotate_left; go_simp; (with_reducible rfl); try simp only [Act.put, List.setIfInBounds_toArray, List.set_cons_zero, List.set_cons_succ]))
  refine lin_bar (by rfl) (fun K3 hK3 => ?_)
  go_simp
  refine hK3 _ _ trivial ?_
  try simp only [Act.put, List.setIfInBounds_toArray, List.set_cons_zero, List.set_cons_succ]
  repeat (first | (refine lin_take ?_ (by rfl) (fun wx hx => ?_) ?_; rotate_left; go_simp; (with_reducible rfl); try simp only [Act.put, List.setIfInBounds_toArray, List.set_cons_zero, List.set_cons_succ]) | (refine lin_skip (by rfl) ?_; try simp only [Act.put, List.setIfInBounds_toArray, List.set_cons_zero, List.set_cons_succ]) | (refine lin_take3 ?_ (by rfl) (fun wx hx => ?_) ?_; rotate_left; go_simp; (with_reducible rfl); try simp only [Act.put, List.setIfInBounds_toArray, List.set_cons_zero, List.set_cons_succ]))
  refine lin_run4 (by rfl) (fun K4 hK4 => ?_)
  go_simp
  refine hK4 _ _ trivial ?_
  try simp only [Act.put, List.setIfInBounds_toArray, List.set_cons_zero, List.set_cons_succ]
  refine lin_nil ?_
  have Hmod : Hid (Mod F w ((w2.setCell ⟨t, 0, none⟩ (.slice A' (others who H).length c')).setCell ⟨t, 1, none⟩ (.slice C' (others who W).length d')) ∧ TabS ((w2.setCell ⟨t, 0, none⟩ (.slice A' (others who H).length c')).setCell ⟨t, 1, none⟩ (.slice C' (others who W).length d')) 55 t (fun j => F j ∨ w.heap.size ≤ j) (others who H) (others who W)) := by
    obtain ⟨r1, r2, r3⟩ := Hset.out
    exact ⟨r3.mono (fun j _ hj => HF.out j hj), _, _, r1, fun j hj => (r2 j hj).imp (HF.out j) id⟩
  clear Hset c0 c1 f0 f1 h2
  generalize (w2.setCell ⟨t, 0, none⟩ (.slice A' (others who H).length c')).setCell ⟨t, 1, none⟩ (.slice C' (others who W).length d') = w4 at *
  go_wp2_with (go_at_call 30; refine (on_any t _ (others who H) (others who W) w4 Hmod.out.2).mono ?_; rintro e w5 ⟨tv, rfl, hR⟩)
  all_goals
    go_ret
    exact ⟨tv, rfl, hR.after Hmod.out.1⟩
end Go.Proofs.Ytpjgfkdnjkfnfaa
