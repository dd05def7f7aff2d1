/- The statement CapsSets walked. -/
import Derived.Test.YtbicaejpckcfbaaM
namespace Go.Proofs.Ytbicaejpckcfbaa
open Go.RowKit

theorem heap_setCell_at {w : World} {t i : Nat} {cs : Array Value} {ty : TypeId} {fz : Nat × Nat} (hb : w.heap[t]? = some (.cells cs ty fz)) (u : Value) : (w.setCell ⟨t, i, none⟩ u).heap[t]? = some (.cells (cs.setIfInBounds i u) ty fz) := by
  simp [World.setCell, Array.getElem?_modify, hb]
theorem Own.set {w : World} {e : TypeId} {size n c g off : Nat} {xs : List Value} (h : Own w e size (.slice (some ⟨g, off, none⟩) n c) n xs) (o j : Nat) (hj : o = off + j) (u : Value) :
    Own (w.setCell ⟨g, o, none⟩ u) e size (.slice (some ⟨g, off, none⟩) n c) n (xs.set j u) := by
  subst hj
  refine ⟨by rw [List.length_set]; exact h.1, ?_⟩
  rcases h.2 with ⟨h1, _⟩ | ⟨g', off', cap, cur, hv, hg, hnc, hcm, hcs, ht⟩
  · cases h1
  · injection hv with h1 _ h3
    injection h1 with h1
    injection h1 with h1 h4
    subst h1 h3 h4
    refine .inr ⟨g, off, c, _, rfl, heap_setCell_at hg u, hnc, hcm, by simpa using hcs, ?_⟩
    rw [← ht, Array.toList_setIfInBounds, List.drop_set, if_neg (by omega), List.take_set]
    congr 2
    omega
theorem Ext.mod_new {w0 w w' : World} {F : Nat → Prop} (h : Ext w0 w) (hm : Mod F w w') (hF : ∀ k, F k → w0.heap.size ≤ k) : Ext w0 w' :=
  Mod.trans (S := fun _ => False) h hm (fun i hi hf => by have := hF i hf; omega)
theorem own_sets {w : World} {A : Option Addr} {c : Nat} {ls : List Nat} (h : Own w 5 1 (.slice A ls.length c) ls.length (u8s ls)) : SetSl w A ls.length ls :=
  SetSl.of_own h rfl (Nat.le_refl _) (fun k x hk => by simp [u8s, hk])

set_option maxRecDepth 20000 in
set_option maxHeartbeats 2000000 in
theorem capsSets_walk (a b : Nat) (ha : a < 256) (hb : b < 256) (w : World) : Calls Try.prog 4 #[.int .u8 (a : Int), .int .u8 (b : Int)] w fun e w' => e = .returned (.bool true) ∧ Ext w w' := by
  obtain ⟨i, hi, hz, hsz, hby⟩ := info_parts Try.info5
  have hlen := allN_len a
  go_enter Try.func4, Try.ntmps4
  go_wp2_with fail
  refine (all_any a ha w).mono ?_
  rintro e w1 ⟨A1, c1, rfl, hx1, ho1, hl1⟩
  have HO1 := Lib.hid ho1
  have HL1 := Lib.hid hl1
  have HX1 := Lib.hid hx1
  clear ho1 hl1 hx1
  go_wp2_with fail
  refine (all_any a ha w1).mono ?_
  rintro e w2 ⟨A2, c2, rfl, hx2, ho2, hl2⟩
  have HO2 := Lib.hid ho2
  have HL2 := Lib.hid hl2
  have HX2 := Lib.hid hx2
  clear ho2 hl2 hx2
  go_wp2_with fail
  refine (refall_any a ha w2).mono ?_
  rintro e w3 ⟨A3, c3, rfl, hx3, ho3, hl3⟩
  have HO3 := Lib.hid ho3
  have HL3 := Lib.hid hl3
  have HX3 := Lib.hid hx3
  clear ho3 hl3 hx3
  go_wp2_with fail
  refine (same_any A1 A3 _ c1 c3 (allN a) w3 (own_sets (HO1.out.ext (HX2.out.trans HX3.out))) (own_sets HO3.out) (by omega)).mono ?_
  rintro e w4 ⟨rfl, hx4⟩
  have HX4 := Lib.hid hx4
  clear hx4
  go_wp2_with fail
  refine (same_any A2 A3 _ c2 c3 (allN a) w4 (own_sets (HO2.out.ext (HX3.out.trans HX4.out))) (own_sets (HO3.out.ext HX4.out)) (by omega)).mono ?_
  rintro e w5 ⟨rfl, hx5⟩
  have HX5 := Lib.hid hx5
  have HO5 : Hid (Own w5 5 1 (.slice A1 (allN a).length c1) (allN a).length (u8s (allN a))) := HO1.out.ext (HX2.out.trans (HX3.out.trans (HX4.out.trans hx5)))
  clear hx5
  go_wp2_with fail
  go_loopw [28] (fun i wr => ∃ k : Nat, k ≤ (allN a).length ∧ i = .int .i64 k ∧ Mod (fun k => (Value.slice A1 (allN a).length c1).ownBlock = some k) w5 wr ∧ ∃ xs, Own wr 5 1 (.slice A1 (allN a).length c1) (allN a).length xs) (fun i _ => (allN a).length - (intOf i).toNat)
  case atStart => exact ⟨0, Nat.zero_le _, rfl, Mod.refl _ _, _, HO5.out⟩
  case round =>
    obtain ⟨k, hk, rfl, hm, xs, ho⟩ := hrel
    have HM := Lib.hid hm
    have HO := Lib.hid ho
    clear hm
    by_cases hlt : k < (allN a).length
    · obtain ⟨A', c', hv, -, hA'⟩ := ho.form
      injection hv with h1 _ h3
      subst h1 h3
      obtain ⟨g, off, rfl, hg⟩ := hA' (by omega)
      have hl : xs.length = (allN a).length * 1 := ho.1
      have d0 : wr.cell? ⟨g, off + k, none⟩ = some (xs[k]'(by omega)) := ho.cells rfl k _ (List.getElem?_eq_getElem (by omega))
      have f0 := ho.frozen rfl (off + k)
      clear ho hA'
      go_wp2_with fail
      go_roundw
      case rel =>
        refine ⟨k + 1, by omega, by go_num, ?_, _, HO.out.set _ k rfl _⟩
        refine Mod.setCell ?_ _ _ (fun _ => rfl)
        exact HM.out
      case measure => simp [intOf]; omega
    · go_wp2_with (at_builtin; refine wpList_append_own_any _ rfl (.tmp 35) (.tmp 36) 26 rfl 5 i _ 1 1 Try.underlying26 hi hz hsz hby rfl (by decide) (.slice A1 (allN a).length c1) (allN a).length xs rfl (HO.out.ext ((Ext.refl _).alloc _)) (some ⟨wr.heap.size, 0, none⟩) 1 1 (u8s [78]) rfl rfl (fun _ => ⟨_, rfl, new_cells _ _ _⟩) (u8s_one [78]) (by unfold maxLen; omega) (by omega) ?_)
      intro v' w6 ho6 hg6 hv6
      have HM6 : Hid (Mod (fun k => (Value.slice A1 (allN a).length c1).ownBlock = some k) w5 w6) := Mod.grown (HM.out.alloc _) hg6 (fun j hj _ => hj)
      obtain ⟨A6, c6, rfl, -, -⟩ := ho6.form
      have hx12 := (HX1.out.trans HX2.out).size
      have Hy : Hid (SetSl w6 A2 (allN a).length (allN a)) := own_sets ((HO2.out.ext (HX3.out.trans (HX4.out.trans HX5.out))).mod HM6.out (fun j hj hk => by have := HL2.out j hj; have := HO1.out.lt j hk; omega))
      have Hz : Hid (SetSl w6 A3 (allN a).length (allN a)) := own_sets ((HO3.out.ext (HX4.out.trans HX5.out)).mod HM6.out (fun j hj hk => by have := HL3.out j hj; have := HO1.out.lt j hk; have := HX2.out.size; omega))
      have HXe : Hid (Ext w w6) := Ext.mod_new (HX1.out.trans (HX2.out.trans (HX3.out.trans (HX4.out.trans HX5.out)))) HM6.out HL1.out
      clear ho6 hg6 hv6 ho
      have hwr : IntKind.i64.wrap (((allN a).length : Int) + 1) = ((allN a).length : Int) + 1 := IntWalk.i64_in _ (by omega)
      go_wp2_with fail
      refine (same_any A2 A3 _ c2 c3 (allN a) w6 Hy.out Hz.out (by omega)).mono ?_
      rintro e w7 ⟨rfl, hx7⟩
      have HXe7 := Lib.hid (HXe.out.trans hx7)
      clear hx7
      go_wp2_with fail
      refine (less_any a b ha hb _).mono ?_
      rintro e w8 ⟨rfl, rfl⟩
      go_wp2_with fail
      refine (refless_any a b ha hb _).mono ?_
      rintro e w9 ⟨rfl, rfl⟩
      go_wp2_with fail
      refine (works_any _).mono ?_
      rintro e w10 ⟨rfl, hx10⟩
      go_wp2_with fail
      go_ret
      exact ⟨rfl, HXe7.out.trans hx10⟩
end Go.Proofs.Ytbicaejpckcfbaa
