/- The law's same; lists of small numbers. -/
import Derived.Test.YtbicaejpckcfbaaDoorF
namespace Go.Proofs.YtbicaejpckcfbaaDoor
open Go.RowKit

theorem SetSl.at {w : World} {A : Option Addr} {n : Nat} {ls : List Nat} (h : SetSl w A n ls) {k : Nat} (hk : k < n) : ∃ b off x, A = some ⟨b, off, none⟩ ∧ b < w.heap.size ∧ ls[k]? = some x ∧ ∀ wx, Ext w wx → wx.cell? ⟨b, off + k, none⟩ = some (.int .u8 (x : Int)) := by
  obtain ⟨b, off, rfl, hb, hc⟩ := h.2 (by omega)
  have hkl : k < ls.length := by have := h.1; omega
  exact ⟨b, off, ls[k], rfl, hb, List.getElem?_eq_getElem hkl, fun wx he => (he.cell hb).trans (hc k _ (List.getElem?_eq_getElem hkl))⟩

set_option maxRecDepth 20000 in
theorem same_any (A B : Option Addr) (n c d : Nat) (ls : List Nat) (w : World) (hA : SetSl w A n ls) (hB : SetSl w B n ls) (hn : n ≤ 9223372036854775807) :
    Calls Tryd.prog 11 #[.slice A n c, .slice B n d] w fun e w' => e = .returned (.bool true) ∧ Ext w w' := by
  have HA := Lib.hid hA
  have HB := Lib.hid hB
  clear hA hB
  go_enter Tryd.func11, Tryd.ntmps11
  go_wp2_with fail
  go_loopw [13] (fun i wr => ∃ k : Nat, k ≤ n ∧ i = .int .i64 k ∧ Ext w wr) (fun i _ => n - (intOf i).toNat)
  case atStart => exact ⟨0, Nat.zero_le _, rfl, Ext.refl _⟩
  case round =>
    obtain ⟨k, hk, rfl, hx⟩ := hrel
    by_cases hlt : k < n
    · obtain ⟨b1, o1, x, rfl, -, hx1, k1⟩ := (HA.out.ext hx).at hlt
      obtain ⟨b2, o2, y, rfl, -, hy1, k2⟩ := (HB.out.ext hx).at hlt
      obtain rfl : x = y := by rw [hx1] at hy1; exact Option.some.inj hy1
      clear hx1 hy1
      go_wp2_with fail
      refine region_lin (fun wx => Ext wr wx) 100000 [(0, 3), (1, 3), (2, 3), (3, 0), (4, 3), (5, 3), (6, 3), (7, 0), (8, 3)] ?_ (by kernel_rfl) (by kernel_rfl) ?_ (fun _ _ _ _ _ h => h) ((Ext.refl _).drew) ?_
      rotate_left
      (simp only [planOps, List.mapM_cons, List.mapM_nil, List.getElem?_toArray, List.getElem?_cons_zero, List.getElem?_cons_succ, Option.map_some, Option.bind_eq_bind, Option.bind_some, Option.pure_def]; rfl)
      intro wd hwd hxd
      repeat (first | (refine lin_take ?_ (by rfl) (fun wx hx => ?_) ?_; rotate_left; go_simp; (with_reducible rfl); try simp only [Act.put, List.setIfInBounds_toArray, List.set_cons_zero, List.set_cons_succ]) | (refine lin_skip (by rfl) ?_; try simp only [Act.put, List.setIfInBounds_toArray, List.set_cons_zero, List.set_cons_succ]) | (refine lin_take3 ?_ (by rfl) (fun wx hx => ?_) ?_; rotate_left; go_simp; (with_reducible rfl); try simp only [Act.put, List.setIfInBounds_toArray, List.set_cons_zero, List.set_cons_succ]))
      refine lin_nil ?_
      go_wp2_with fail
      go_roundw
      case rel => exact ⟨k + 1, by omega, by go_num, hx.trans hxd⟩
      case measure => simp [intOf]; omega
    · go_wp2_with fail
      go_ret
      exact ⟨rfl, hx⟩

theorem SetSl.made (w : World) (ls : List Nat) (vs : Array Value) (hv : vs.toList = ls.map fun x => .int .u8 (x : Int)) : SetSl (w.alloc (.cells vs 5)) (some ⟨w.heap.size, 0, none⟩) ls.length ls := by
  refine ⟨rfl, fun _ => ⟨w.heap.size, 0, rfl, by simp, fun k x hk => ?_⟩⟩
  rw [cell_of_row _ _ _ _ 5 (0, 0) (heap_alloc_new w _), Nat.zero_add, ← Array.getElem?_toList, hv]
  simp [hk]

/-- The values of a list of small numbers. -/
def u8s (ls : List Nat) : List Value := ls.map fun x : Nat => Value.int .u8 (x : Int)
theorem u8s_one (ls : List Nat) : ∀ u ∈ u8s ls, u.oneCell' = true := by
  intro u hu
  obtain ⟨b, _, rfl⟩ := List.mem_map.1 hu
  rfl
theorem u8s_length (ls : List Nat) : (u8s ls).length = ls.length := List.length_map ..
theorem SetSl.of_own {w : World} {A : Option Addr} {c m n : Nat} {xs : List Value} {ls : List Nat} (h : Own w 5 1 (.slice A m c) m xs) (hn : n = ls.length) (hm : n ≤ m) (hx : ∀ (k x : Nat), ls[k]? = some x → xs[k]? = some (Value.int .u8 (x : Int))) : SetSl w A n ls := by
  refine ⟨hn, fun h0 => ?_⟩
  obtain ⟨A', c', hv, -, hA⟩ := h.form
  injection hv with h1 _ h3
  subst h1
  obtain ⟨g, off, rfl, hg⟩ := hA (by omega)
  exact ⟨g, off, rfl, hg, fun k x hk => h.cells rfl k _ (hx k x hk)⟩
theorem SetSl.news {w : World} {A : Option Addr} {n : Nat} {ls : List Nat} (h : SetSl w A n ls) : 0 < n → ∃ ad, A = some ad ∧ ∀ j u, (u8s ls)[j]? = some u → w.cell? (ad.add j) = some u := fun h0 => by
  obtain ⟨b, off, rfl, hb, hc⟩ := h.2 h0
  refine ⟨_, rfl, fun j u hu => ?_⟩
  rw [add_off]
  unfold u8s at hu
  rw [List.getElem?_map] at hu
  obtain ⟨x, hx, rfl⟩ := Option.map_eq_some_iff.1 hu
  exact hc j x hx
theorem Tryd.info5 : (Tryd.prog.info? 5).map (fun i => (i.zero, i.size, i.bytes)) = some (some (.int .u8 0), 1, 1) := by kernel_rfl
theorem new_cells (w : World) (l : List Value) (e : TypeId) : ∀ j u, l[j]? = some u → (w.alloc (.cells l.toArray e)).cell? ((⟨w.heap.size, 0, none⟩ : Addr).add j) = some u := by
  intro j u h
  rw [add_off, Nat.zero_add, cell_of_row _ _ j _ e (0, 0) (heap_alloc_new w _)]
  simpa using h
theorem own_sets {w : World} {A : Option Addr} {c : Nat} {ls : List Nat} (h : Own w 5 1 (.slice A ls.length c) ls.length (u8s ls)) : SetSl w A ls.length ls :=
  SetSl.of_own h rfl (Nat.le_refl _) (fun k x hk => by simp [u8s, hk])
end Go.Proofs.YtbicaejpckcfbaaDoor
