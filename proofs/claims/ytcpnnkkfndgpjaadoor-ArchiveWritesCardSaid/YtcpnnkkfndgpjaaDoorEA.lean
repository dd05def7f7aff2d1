/- The law's twin: items anew. -/
import Derived.Test.YtcpnnkkfndgpjaaDoorGB
namespace Go.Proofs.YtcpnnkkfndgpjaaDoor
open Go.RowKit

theorem ItMine.snoc {w0 w w' : World} {v v' : Value} {vs : List IV} {i : IV} (h : ItMine w0 w v vs) (hd : Own w 5 1 i.dat i.x.data.length (u8v i.x.data)) (hn : ∀ k, i.dat.ownBlock = some k → w0.heap.size ≤ k) (h0 : w0.heap.size ≤ w.heap.size) (ho : Own w' 50 3 v' (vs.length + 1) (itv vs ++ itv [i])) (hg : w.grownBy w' v.ownBlock) (hv : v'.ownBlock = v.ownBlock ∨ v'.ownBlock = some w.heap.size) :
    ItMine w0 w' v' (vs ++ [i]) ∧ Mod (fun k => v.ownBlock = some k) w w' := by
  have hm : Mod (fun k => v.ownBlock = some k) w w' := (Mod.refl _ _).grown hg (fun k e _ => e)
  have hdd : ∀ (u : Value) (j : Nat) (xs : List Value), Own w 5 1 u j xs → ∀ k, u.ownBlock = some k → ¬ v.ownBlock = some k := fun u j xs hu k hk hh => by
    obtain ⟨cur, h3⟩ := hu.ty hk
    obtain ⟨cur', h4⟩ := h.row.ty hh
    rw [h4] at h3; injection h3 with h3; injection h3 with _ h3; exact absurd h3 (by decide)
  refine ⟨⟨by rw [List.length_append, itv_app]; exact ho, fun k hk => ?_, fun j hj => ?_, fun j hj k hk => ?_⟩, hm⟩
  · rcases hv with e | e
    · exact h.new k (e ▸ hk)
    · rw [e] at hk; injection hk with hk; omega
  · rcases List.mem_append.1 hj with hj | hj
    · exact (h.dat j hj).mod hm (hdd _ _ _ (h.dat j hj))
    · obtain rfl := List.mem_singleton.1 hj
      exact hd.mod hm (hdd _ _ _ hd)
  · rcases List.mem_append.1 hj with hj | hj
    · exact h.dnew j hj k hk
    · obtain rfl := List.mem_singleton.1 hj
      exact hn k hk
/-- One cell of a slice that a list owns is set. -/
theorem Own.put1 {w : World} {e : TypeId} {size g off m c n : Nat} {xs : List Value} (h : Own w e size (.slice (some ⟨g, off, none⟩) m c) n xs) {j : Nat} (hj : j < n * size) (u : Value) : Own (w.setCell ⟨g, off + j, none⟩ u) e size (.slice (some ⟨g, off, none⟩) m c) n (xs.set j u) := by
  refine ⟨by rw [List.length_set]; exact h.1, ?_⟩
  rcases h.2 with ⟨h1, h2⟩ | ⟨g', off', cap, cur, hv, hg, hnc, hcm, hcs, ht⟩
  · cases h1
  · injection hv with h1 h2 h3
    injection h1 with h1
    injection h1 with h1 h4
    subst h1 h4 h2 h3
    refine .inr ⟨g, off, c, cur.setIfInBounds (off + j) u, rfl, heap_setCell_at hg u, hnc, hcm, by simpa using hcs, ?_⟩
    rw [Array.toList_setIfInBounds, List.drop_set, if_neg (by omega), show off + j - off = j from by omega, List.take_set, ht]
theorem u8v_set (l : Bs) (j : Nat) (d : UInt8) : (u8v l).set j (.int .u8 (d.toNat : Int)) = u8v (l.set j d) := by
  unfold u8v
  rw [List.map_set]
set_option maxRecDepth 20000 in
set_option maxHeartbeats 2000000 in
theorem twin_any (A : Option Addr) (n c : Nat) (ls : List It) (w : World) (hl : ItSl w A n ls) (hsz : szN ls ≤ 16777216) (hn : n ≤ 1073741824) :
    Calls Tryd.prog 12 #[.slice A n c] w fun e w' => ∃ (LA : Option Addr) (lc : Nat) (vs : List IV), e = .returned (.slice LA n lc) ∧ vs.length = n ∧ vs.map (·.x) = ls ∧ ItMine w w' (.slice LA n lc) vs ∧ Ext w w' := by
  have HL := Lib.hid hl
  have Hl := Lib.hid hl.1
  have HS : Hid (True ∧ szN ls ≤ 16777216) := ⟨trivial, hsz⟩
  clear hl hsz
  obtain ⟨i5, hi5, hz5, hsz5, hby5⟩ := info_parts Tryd.info5
  obtain ⟨i50, hi50, hz50, hsz50, hby50⟩ := info_parts Tryd.info50
  go_enter Tryd.func12, Tryd.ntmps12
  go_wp2_with fail
  go_loopw [3, 8] (fun lv iv wr => ∃ (k : Nat) (LA : Option Addr) (lc : Nat) (vs : List IV), k ≤ n ∧ iv = .int .i64 (k : Int) ∧ lv = .slice LA k lc ∧ vs.length = k ∧ vs.map (·.x) = ls.take k ∧ ItMine w wr (.slice LA k lc) vs ∧ Ext w wr) (fun _ iv _ => n - (intOf iv).toNat)
  case atStart => exact ⟨0, none, 0, [], Nat.zero_le _, rfl, rfl, rfl, rfl, ItMine.nil _ _, Ext.refl _⟩
  case round =>
    obtain ⟨k, LA, lc, vs, hk, rfl, rfl, hvl, hvm, hit, hx⟩ := hrel
    have HX := Lib.hid hx
    have HI := Lib.hid hit
    have Hvl := Lib.hid hvl
    have Hvm := Lib.hid hvm
    clear hx hit hvl hvm
    by_cases hlt : k < n
    · obtain ⟨b, off, x, D, dc, rfl, hbw, hx, c0', c1', c2', hbs⟩ := (HL.out.ext HX.out).at hlt
      have Hx := Lib.hid hx
      have hxs := item_cap hx
      have hx5 : x.path.length + x.data.length ≤ 16777216 := by have := HS.out.2; have h2 := szN_eq ls; omega
      have Hbs := Lib.hid hbs
      obtain ⟨P, hP⟩ : ∃ P, mkB x.path = P := ⟨_, rfl⟩
      have HP := Lib.hid hP
      rw [hP] at c0'
      have C0 : ∀ wx, Ext wr wx → wx.cell? ⟨b, off + k * 3, none⟩ = some (.string P) := fun wx h => (h.cell hbw).trans c0'
      have C1 : ∀ wx, Ext wr wx → wx.cell? ⟨b, off + k * 3 + 1, none⟩ = some (.int .i8 x.kind) := fun wx h => (h.cell hbw).trans c1'
      have C2 : ∀ wx, Ext wr wx → wx.cell? ⟨b, off + k * 3 + 2, none⟩ = some (.slice D x.data.length dc) := fun wx h => (h.cell hbw).trans c2'
      have c0 := C0 _ (Ext.refl _)
      have c1 := C1 _ (Ext.refl _)
      have c2 := C2 _ (Ext.refl _)
      clear c0' c1' c2' hx hxs hbs hP hbw
      have HX1 : Hid (Ext wr (wr.alloc (.cells #[.string P, .int .i8 x.kind, .slice D x.data.length dc] 50))) := Lib.hid ((Ext.refl _).alloc _)
      have HI1 : Hid (ItAt (wr.alloc (.cells #[.string P, .int .i8 x.kind, .slice D x.data.length dc] 50)) wr.heap.size (.string P) x.kind (.slice D x.data.length dc)) := Lib.hid (heap_alloc_new wr _)
      go_wp2_with (at_builtin; refine wpList_append_own_any _ rfl (.const (.slice none 0 0)) (.tmp 16) 26 rfl 5 i5 _ 1 1 Tryd.underlying26 hi5 hz5 hsz5 hby5 rfl (by decide) (.slice none 0 0) 0 [] rfl (Own.nil _ 5 1) D x.data.length dc (u8v x.data) rfl (by rw [u8v_len, Nat.mul_one]) (Hbs.out.ext HX1.out).news (u8v_one _) (by unfold maxLen; omega) (by omega) ?_)
      intro v1 w2 ho hg hv'
      have hx2 := (Ext.refl _).grown hg (fun k e => by simp [Value.ownBlock] at e)
      have HX2 := Lib.hid (HX1.out.trans hx2)
      have HI2 := Lib.hid (HI1.out.ext hx2)
      have HO2 : Hid (Own w2 5 1 v1 x.data.length (u8v x.data)) := Lib.hid (by simpa using ho)
      have HV : Hid (∀ k, v1.ownBlock = some k → wr.heap.size + 1 ≤ k) := Lib.hid (fun k hk => by
        rcases hv' with h | h
        · rw [h] at hk; simp [Value.ownBlock] at hk
        · rw [h] at hk; injection hk with hk; first | omega | (simp at hk; omega))
      obtain ⟨D', dc', rfl, -, -⟩ := HO2.out.form
      obtain ⟨q0, q1, q2, qf⟩ := HI2.out.cells
      have qf2 := qf 2
      clear ho hg hv' hx2 HI1 C0 C1 C2 c0 c1 c2 HX1
      obtain ⟨w3, hw3⟩ : ∃ W, w2.setCell ⟨wr.heap.size, 2, none⟩ (.slice D' x.data.length dc') = W := ⟨_, rfl⟩
      have HW3 := Lib.hid hw3
      have HI3 : Hid (ItAt w3 wr.heap.size (.string P) x.kind (.slice D' x.data.length dc')) := Lib.hid (by rw [← hw3]; exact HI2.out.setData _)
      have HX3 : Hid (Ext wr w3) := Lib.hid (by rw [← hw3]; exact HX2.out.setCell _ _ (Nat.le_refl _))
      have HO3 : Hid (Own w3 5 1 (.slice D' x.data.length dc') x.data.length (u8v x.data)) := Lib.hid (by rw [← hw3]; exact HO2.out.mod (mod_set _ _ _ _) (fun k hk e => by have := HV.out k hk; omega))
      obtain ⟨p0, p1, p2, -⟩ := HI3.out.cells
      rw [← hw3] at p0 p1 p2
      have hs3 : w3.heap.size = w2.heap.size := by rw [← hw3]; simp
      have Hs3 := Lib.hid hs3
      have HR3 : Hid (Own w3 50 3 (.slice LA k lc) k (itv vs)) := Lib.hid (by have := HI.out.row.ext HX3.out; rwa [Hvl.out] at this)
      have hnc : ∀ (j : Nat) u, (itv [⟨x, D', dc'⟩])[j]? = some u → (w3.alloc (.cells #[.string P, .int .i8 x.kind, .slice D' x.data.length dc'] 50)).cell? ((⟨w2.heap.size, 0, none⟩ : Addr).add j) = some u := fun j u hu => by
        rw [← hs3]
        have e : itv [⟨x, D', dc'⟩] = [.string P, .int .i8 x.kind, .slice D' x.data.length dc'] := by rw [← HP.out]; rfl
        rw [e] at hu
        exact new_cells _ [.string P, .int .i8 x.kind, .slice D' x.data.length dc'] 50 j u hu
      have Hnc := Lib.hid hnc
      clear hw3 hnc hs3
      go_wp2_with (at_builtin; rw [HW3.out]; refine wpList_append_own_any _ rfl (.tmp 19) (.tmp 21) 22 rfl 50 i50 _ 3 48 Tryd.underlying22 hi50 hz50 hsz50 hby50 rfl (by decide) (.slice LA k lc) k (itv vs) rfl (HR3.out.ext ((Ext.refl _).alloc _)) (some ⟨w2.heap.size, 0, none⟩) 1 1 (itv [⟨x, D', dc'⟩]) rfl rfl (fun _ => ⟨_, rfl, Hnc.out⟩) (itv_one _) (by unfold maxLen; omega) (by omega) ?_)
      intro v' w9 ho hg hv'
      have hx4 : Ext w3 (w3.alloc (.cells #[.string P, .int .i8 x.kind, .slice D' x.data.length dc'] 50)) := (Ext.refl _).alloc _
      have hpu := ItMine.snoc (i := ⟨x, D', dc'⟩) (HI.out.ext (HX3.out.trans hx4)) (HO3.out.ext hx4) (fun j hj => by have := HV.out j hj; have := HX.out.size; omega) (by have := HX.out.size; have := (HX3.out.trans hx4).size; omega) (by rw [Hvl.out]; exact ho) hg (by simpa using hv')
      have HI9 := Lib.hid hpu.1
      have HX9 : Hid (Ext w w9) := Lib.hid ((HX.out.trans (HX3.out.trans hx4)).grown hg (fun j hj => HI.out.new j hj))
      have Hvm9 : Hid ((vs ++ [(⟨x, D', dc'⟩ : IV)]).map (·.x) = ls.take (k + 1)) := Lib.hid (by
        obtain ⟨h1, h2⟩ := List.getElem?_eq_some_iff.1 Hx.out
        rw [List.take_succ_eq_append_getElem h1, h2, List.map_append, Hvm.out]; rfl)
      have Hvl9 : Hid ((vs ++ [(⟨x, D', dc'⟩ : IV)]).length = k + 1) := Lib.hid (by rw [List.length_append, Hvl.out]; rfl)
      obtain ⟨LA9, lc9, rfl, -, -⟩ := ho.form
      clear ho hg hv' hx4 hpu
      go_wp2_with fail
      go_roundw
      case rel => exact ⟨k + 1, LA9, lc9, _, by omega, by go_num, rfl, Hvl9.out, Hvm9.out, HI9.out, HX9.out⟩
      case measure => simp [intOf]; omega
    · have hkn : k = n := by omega
      have He : Hid (vs.map (·.x) = ls) := Lib.hid (by rw [Hvm.out, List.take_of_length_le (by rw [hkn, Hl.out]; exact Nat.le_refl _)])
      subst hkn
      go_wp2_with fail
      go_ret
      exact ⟨LA, lc, vs, rfl, Hvl.out, He.out, HI.out, HX.out⟩
end Go.Proofs.YtcpnnkkfndgpjaaDoor
