/- The document's table: without, Leave, Free. -/
import Derived.Test.YtpjgfkdnjkfnfaaPC
namespace Go.Proofs.Ytpjgfkdnjkfnfaa
open Go.RowKit Go.Maps

set_option maxRecDepth 20000 in
theorem without_any (who : Int) (A : Option Addr) (n c : Nat) (ls : List Lk) (w : World) (hs : LkSl w A n ls) (hn : n ≤ 256) :
    Calls Try.prog 38 #[.slice A n c, .int .i64 who] w (OutPost (others who ls) w) := by
  have Hs := Lib.hid hs
  clear hs
  obtain ⟨i, hi, hz, hsz, hby⟩ := info_parts Try.info29
  go_enter Try.func38, Try.ntmps38
  go_wp2_with fail
  go_loopw [5, 6] (fun o i wr => ∃ (k : Nat) (S : Option Addr) (cs : Nat), k ≤ n ∧ i = .int .i64 k ∧ o = .slice S (others who (ls.take k)).length cs ∧ Own wr 29 4 (.slice S (others who (ls.take k)).length cs) (others who (ls.take k)).length (flat (others who (ls.take k))) ∧ (∀ j, (Value.slice S (others who (ls.take k)).length cs).ownBlock = some j → w.heap.size ≤ j) ∧ Ext w wr) (fun _ i _ => n - (intOf i).toNat)
  case atStart => exact ⟨0, none, 0, Nat.zero_le _, rfl, rfl, Own.nil _ _ _, fun k h => by simp [Value.ownBlock] at h, Ext.refl _⟩
  case round =>
    obtain ⟨k, S, cs, hk, rfl, rfl, ho, hb, hx⟩ := hrel
    have Ho := Lib.hid ho
    have Hb := Lib.hid hb
    have Hx := Lib.hid hx
    have hol : (others who (ls.take k)).length ≤ 256 := by
      have h1 := List.length_filter_le (fun l : Lk => !decide (l.who = who)) (ls.take k)
      have h2 := List.length_take_le k ls
      unfold others
      omega
    clear ho hb hx
    by_cases hlt : k < n
    · obtain ⟨b, off, rfl, hb, hce⟩ := (Hs.out.ext Hx.out).2 (by omega)
      have hkl : k < ls.length := by have := Hs.out.1; omega
      obtain ⟨e1, e2, e3, e4⟩ := hce k ls[k] (List.getElem?_eq_getElem hkl)
      obtain ⟨x, hxe⟩ : ∃ x, ls[k] = x := ⟨_, rfl⟩
      have Htk : Hid (others who (ls.take (k + 1)) = others who (ls.take k) ++ (if x.who = who then [] else [x])) := by
        show _ = _
        unfold others
        rw [List.take_succ_eq_append_getElem hkl, List.filter_append, hxe]
        congr 1
        by_cases h : x.who = who <;> simp [h]
      rw [hxe] at e1 e2 e3 e4
      clear hce hxe
      generalize hL : others who (ls.take k) = L at *
      by_cases hxw : x.who = who
      · have hxw' : (x.who != who) = false := by simp [hxw]
        have Hxw := Lib.hid hxw
        clear hxw
        go_wp2_with fail
        go_roundw
        case rel =>
          have h := Htk.out
          rw [if_pos Hxw.out, List.append_nil] at h
          refine ⟨k + 1, S, cs, by omega, by go_num, by rw [h], by rw [h]; exact Ho.out, by rw [h]; exact Hb.out, Hx.out⟩
        case measure => simp [intOf]; omega
      · have hxw' : (x.who != who) = true := by simpa using hxw
        have Hxw := Lib.hid hxw
        clear hxw
        go_wp2_with (at_builtin; go_must (refine wpList_append_own_any _ rfl (.tmp 20) (.tmp 25) 25 rfl 29 i _ 4 32 Try.underlying25 hi hz hsz hby rfl (by decide) (.slice S L.length cs) L.length (flat L) rfl (Ho.out.ext ((Ext.refl _).alloc _)) (some ⟨wr.heap.size, 0, none⟩) 1 1 (Lk.enc x) rfl rfl (fun _ => ⟨_, rfl, new_cells _ _ _⟩) (flat_one [x]) (by unfold maxLen; omega) (by omega) ?_))
        intro v' w1 ho hg hv'
        have HO : Hid (Own w1 29 4 v' (L ++ [x]).length (flat (L ++ [x]))) := flat_snoc ho
        have HB : Hid (∀ j, v'.ownBlock = some j → w.heap.size ≤ j) := fun j hj => by
          rcases hv' with h | h
          · exact Hb.out j (h ▸ hj)
          · rw [h] at hj; injection hj with hj; have := Hx.out.size
            omega
        have HX : Hid (Ext w w1) := Ext.grown (Hx.out.alloc _) hg (fun j h => Hb.out j h)
        obtain ⟨S', c', rfl, -, -⟩ := ho.form
        clear ho hg hv'
        go_wp2_with fail
        go_roundw
        case rel =>
          have h := Htk.out
          rw [if_neg Hxw.out] at h
          exact ⟨k + 1, S', c', by omega, by go_num, by rw [h]; simp, by rw [h]; have := HO.out; simpa using this, by rw [h]; have := HB.out; simpa using this, HX.out⟩
        case measure => simp [intOf]; omega
    · have hkn : k = n := by omega
      have HP : Hid (OutPost (others who ls) w (.returned (.slice S (others who (ls.take k)).length cs)) wr) := by
        have h1 := Ho.out
        have h2 := Hb.out
        rw [hkn, Hs.out.1, List.take_length] at h1 h2 ⊢
        exact ⟨_, rfl, h1, h2, Hx.out⟩
      clear hkn
      go_wp2_with fail
      go_ret
      exact HP.out

set_option maxRecDepth 20000 in
set_option maxHeartbeats 1000000 in
theorem refleave_any (t : Nat) (F : Nat → Prop) (H W : List Lk) (who : Int) (w : World) (hT : TabS w 49 t F H W) :
    Calls Try.prog 25 #[.pointer (some ⟨t, 0, none⟩), .int .i64 who] w (LeavePost 49 t F who H W w) := by
  obtain ⟨hv, wv, ht, hF⟩ := hT
  obtain ⟨A, ch, rfl, -, -⟩ := ht.held.form
  obtain ⟨C, cw, rfl, -, -⟩ := ht.waits.form
  have htl := ht.lt
  have HtB := Lib.hid ht
  have HF := Lib.hid hF
  have c0 := ht.cell0
  clear ht hF
  go_enter Try.func25, Try.ntmps25
  go_wp2_with fail
  refine (without_any who A H.length ch H w (LkSl.of_own HtB.out.held) (by have := HtB.out.few; omega)).mono ?_
  rintro e w1 ⟨v0, rfl, ho0, hb0, hx0⟩
  have hset := HtB.out.set_held (w2 := w1) (v' := v0) (H' := others who H) (by decide) (Mod.mono hx0 (fun _ _ f => f.elim)) ho0 (fun k hk => .inr (hb0 k hk)) (others_mem HtB.out.hok) (by have := HtB.out.few; have := others_len who H; omega)
  have Hset := Lib.hid hset
  have c1 := (hx0.cell htl).trans c0
  have f1 : w1.frozen? ⟨t, 0, none⟩ = false := ((hx0.frozen htl (fun f => f))).trans (HtB.out.frozen 0)
  obtain ⟨A0, n0, rfl, -, -⟩ := ho0.form
  clear hset ho0 hb0 c0
  have d1 := Hset.out.1.cell1
  go_wp2_with fail
  clear c1 f1 hx0 d1
  generalize w1.setCell ⟨t, 0, none⟩ (.slice A0 (others who H).length n0) = w2 at *
  have htl2 := Hset.out.1.lt
  have c1 := Hset.out.1.cell1
  refine (without_any who C W.length cw W w2 (LkSl.of_own Hset.out.1.waits) (by have := HtB.out.few; omega)).mono ?_
  rintro e w3 ⟨v1, rfl, ho1, hb1, hx1⟩
  have hset2 := Hset.out.1.set_waits (w2 := w3) (v' := v1) (W' := others who W) (by decide) hx1 ho1 hb1 (others_mem HtB.out.wok) (by have := HtB.out.few; have := others_len who W; have := others_len who H; omega)
  have Hset2 := Lib.hid hset2
  have c2 := (hx1.cell htl2).trans c1
  have f2 : w3.frozen? ⟨t, 1, none⟩ = false := ((hx1.frozen htl2 (fun f => f))).trans (Hset.out.1.frozen 1)
  obtain ⟨A1, n1, rfl, -, -⟩ := ho1.form
  clear hset2 ho1 hb1 c1
  go_wp2_with fail
  clear c2 f2 hx1
  have Hmod : Hid (Mod F w (w3.setCell ⟨t, 1, none⟩ (.slice A1 (others who W).length n1)) ∧ TabS (w3.setCell ⟨t, 1, none⟩ (.slice A1 (others who W).length n1)) 49 t (fun j => F j ∨ w.heap.size ≤ j) (others who H) (others who W)) := by
    obtain ⟨r1, r2, r3⟩ := Hset.out
    obtain ⟨s1, s2, s3⟩ := Hset2.out
    have hsz := r3.size
    refine ⟨Mod.trans (S := F) (r3.mono (fun j _ hj => HF.out j hj)) s3 (fun j hj hs => ?_), _, _, s1, fun j hj => ?_⟩
    · rcases r2 j hs with h | h
      · exact HF.out j h
      · omega
    · rcases s2 j hj with h | h
      · rcases r2 j h with h | h
        · exact .inl (HF.out j h)
        · exact .inr h
      · right; omega
  clear Hset Hset2
  generalize w3.setCell ⟨t, 1, none⟩ (.slice A1 (others who W).length n1) = w4 at *
  go_wp2_with (go_at_call 35; refine (refon_any t _ (others who H) (others who W) w4 Hmod.out.2).mono ?_; rintro e w5 ⟨tv, rfl, hR⟩)
  all_goals
    go_ret
    exact ⟨tv, rfl, hR.after Hmod.out.1⟩
end Go.Proofs.Ytpjgfkdnjkfnfaa
