/- Less; the two texts that every statement asks. -/
import Derived.Test.YtbicaejpckcfbaaF
import Derived.Test.YtbicaejpckcfbaaJ
namespace Go.Proofs.Ytbicaejpckcfbaa
open Go.RowKit

theorem less19 (w : World) : Calls Try.prog 14 #[.int .u8 1, .int .u8 9] w fun e w' => e = .returned (.bool true) ∧ w' = w := by
  have h : bits BinOp.andNot IntKind.u8 1 9 = 0 := by decide
  go_enter Try.func14, Try.ntmps14
  go_wp2
  go_ret
  exact ⟨rfl, rfl⟩
theorem less91 (w : World) : Calls Try.prog 14 #[.int .u8 9, .int .u8 1] w fun e w' => e = .returned (.bool false) ∧ w' = w := by
  have h : bits BinOp.andNot IntKind.u8 9 1 = 8 := by decide
  go_enter Try.func14, Try.ntmps14
  go_wp2
  go_ret
  exact ⟨rfl, rfl⟩
theorem text0 (w : World) : Calls Try.prog 21 #[.int .u8 0] w fun e w' => e = .returned (.string ⟨#[114, 101, 97, 100]⟩) ∧ w' = w := by
  go_enter Try.func21, Try.ntmps21
  go_wp2
  go_ret
  exact ⟨rfl, rfl⟩

theorem new_cells (w : World) (l : List Value) (e : TypeId) : ∀ j u, l[j]? = some u → (w.alloc (.cells l.toArray e)).cell? ((⟨w.heap.size, 0, none⟩ : Addr).add j) = some u := by
  intro j u h
  rw [add_off, Nat.zero_add, cell_of_row _ _ j _ e (0, 0) (heap_alloc_new w _)]
  simpa using h
theorem Try.info9 : (Try.prog.info? 9).map (fun i => (i.zero, i.size, i.bytes)) = some (some (.string ByteArray.empty), 1, 16) := by kernel_rfl
def sel : Nat → List ByteArray
  | 0 => []
  | 4 => [⟨#[119, 114, 105, 116, 101]⟩, ⟨#[115, 121, 110, 99]⟩]
  | _ => [⟨#[119, 114, 105, 116, 101]⟩]
def strs (l : List ByteArray) : List Value := l.map Value.string
theorem strs_one (l : List ByteArray) : ∀ u ∈ strs l, u.oneCell' = true := by
  intro u hu
  obtain ⟨b, _, rfl⟩ := List.mem_map.1 hu
  rfl
set_option maxRecDepth 20000 in
set_option maxHeartbeats 1000000 in
theorem text9 (w : World) : Calls Try.prog 21 #[.int .u8 9] w fun e w' => e = .returned (.string ⟨#[119, 114, 105, 116, 101, 32, 115, 121, 110, 99]⟩) ∧ Ext w w' := by
  have x0 : ∀ w : World, (Instr.index 52 wordsV (.int .i64 0)).run Try.prog w = .ok (.string ⟨#[119, 114, 105, 116, 101]⟩) w := fun _ => by kernel_rfl
  have x1 : ∀ w : World, (Instr.index 52 wordsV (.int .i64 1)).run Try.prog w = .ok (.string ⟨#[99, 117, 116]⟩) w := fun _ => by kernel_rfl
  have x2 : ∀ w : World, (Instr.index 52 wordsV (.int .i64 2)).run Try.prog w = .ok (.string ⟨#[104, 111, 108, 101, 115]⟩) w := fun _ => by kernel_rfl
  have x3 : ∀ w : World, (Instr.index 52 wordsV (.int .i64 3)).run Try.prog w = .ok (.string ⟨#[115, 121, 110, 99]⟩) w := fun _ => by kernel_rfl
  have y0 : bits BinOp.and IntKind.u8 9 1 = 1 := by decide
  have y1 : bits BinOp.and IntKind.u8 4 1 = 0 := by decide
  have y2 : bits BinOp.and IntKind.u8 2 1 = 0 := by decide
  have y3 : bits BinOp.and IntKind.u8 1 1 = 1 := by decide
  obtain ⟨WV, hW⟩ : ∃ v, v = wordsV := ⟨_, rfl⟩
  rw [← hW] at x0 x1 x2 x3
  have HW := Lib.hid hW
  clear hW
  obtain ⟨i, hi, hz, hs, hby⟩ := info_parts Try.info9
  go_enter Try.func21, Try.ntmps21
  go_wp2_with (go_at_call 30; refine (words_any _).mono ?_; rintro e w1 ⟨rfl, hx1⟩; rw [← HW.out])
  go_loopw [3, 11] (fun v i wr => ∃ (k : Nat) (A : Option Addr) (c : Nat), k ≤ 4 ∧ i = .int .i64 k ∧ v = .slice A (sel k).length c ∧ Ext w wr ∧ Own wr 9 1 (.slice A (sel k).length c) (sel k).length (strs (sel k)) ∧ (∀ j, (Value.slice A (sel k).length c).ownBlock = some j → w.heap.size ≤ j)) (fun _ i _ => 4 - (intOf i).toNat)
  case atStart => exact ⟨0, none, 0, by decide, rfl, rfl, hx1, Own.nil _ _ _, fun k h => by simp [Value.ownBlock] at h⟩
  case round =>
    obtain ⟨k, A, c, hk, rfl, rfl, hx, ho, hl⟩ := hrel
    have Ho := Lib.hid ho
    have Hl := Lib.hid hl
    have Hx := Lib.hid hx
    clear ho hl hx
    by_cases hlt : k < 4
    · rcases (by omega : k = 0 ∨ k = 1 ∨ k = 2 ∨ k = 3) with rfl | rfl | rfl | rfl
      · go_wp2_with (at_builtin; refine wpList_append_own_any _ rfl (.tmp 20) (.tmp 22) 51 rfl 9 i _ 1 16 Try.underlying51 hi hz hs hby rfl (by decide) (.slice A (sel 0).length c) (sel 0).length (strs (sel 0)) rfl (Ho.out.ext ((Ext.refl _).alloc _)) (some ⟨wr.heap.size, 0, none⟩) 1 1 (strs [⟨#[119, 114, 105, 116, 101]⟩]) rfl rfl (fun _ => ⟨_, rfl, new_cells _ _ _⟩) (strs_one _) (by unfold maxLen; decide) (by decide) ?_)
        intro v' w2 ho hg hv'
        have hx2 : Ext w w2 := (Hx.out.alloc _).grown hg (fun j h => Hl.out j h)
        have hl2 : ∀ j, v'.ownBlock = some j → w.heap.size ≤ j := fun j hj => by
          rcases hv' with h | h
          · exact Hl.out j (h ▸ hj)
          · rw [h] at hj; injection hj with hj; have := Hx.out.size; omega
        have HP : Hid (True ∧ Ext w w2 ∧ Own w2 9 1 v' (sel 1).length (strs (sel 1)) ∧ ∀ j, v'.ownBlock = some j → w.heap.size ≤ j) := ⟨trivial, hx2, ho, hl2⟩
        obtain ⟨A2, c2, rfl, -, -⟩ := ho.form
        clear ho hg hv' hx2 hl2
        go_wp2_with fail
        go_roundw
        case rel => exact ⟨1, A2, c2, by decide, rfl, rfl, HP.out.2.1, HP.out.2.2.1, HP.out.2.2.2⟩
        case measure => decide
      · go_wp2_with fail
        go_roundw
        case rel => exact ⟨2, A, c, by decide, rfl, rfl, Hx.out, Ho.out, Hl.out⟩
        case measure => decide
      · go_wp2_with fail
        go_roundw
        case rel => exact ⟨3, A, c, by decide, rfl, rfl, Hx.out, Ho.out, Hl.out⟩
        case measure => decide
      · go_wp2_with (at_builtin; refine wpList_append_own_any _ rfl (.tmp 20) (.tmp 22) 51 rfl 9 i _ 1 16 Try.underlying51 hi hz hs hby rfl (by decide) (.slice A (sel 3).length c) (sel 3).length (strs (sel 3)) rfl (Ho.out.ext ((Ext.refl _).alloc _)) (some ⟨wr.heap.size, 0, none⟩) 1 1 (strs [⟨#[115, 121, 110, 99]⟩]) rfl rfl (fun _ => ⟨_, rfl, new_cells _ _ _⟩) (strs_one _) (by unfold maxLen; decide) (by decide) ?_)
        intro v' w2 ho hg hv'
        have hx2 : Ext w w2 := (Hx.out.alloc _).grown hg (fun j h => Hl.out j h)
        have hl2 : ∀ j, v'.ownBlock = some j → w.heap.size ≤ j := fun j hj => by
          rcases hv' with h | h
          · exact Hl.out j (h ▸ hj)
          · rw [h] at hj; injection hj with hj; have := Hx.out.size; omega
        have HP : Hid (True ∧ Ext w w2 ∧ Own w2 9 1 v' (sel 4).length (strs (sel 4)) ∧ ∀ j, v'.ownBlock = some j → w.heap.size ≤ j) := ⟨trivial, hx2, ho, hl2⟩
        obtain ⟨A2, c2, rfl, -, -⟩ := ho.form
        clear ho hg hv' hx2 hl2
        go_wp2_with fail
        go_roundw
        case rel => exact ⟨4, A2, c2, by decide, rfl, rfl, HP.out.2.1, HP.out.2.2.1, HP.out.2.2.2⟩
        case measure => decide
    · obtain rfl : k = 4 := by omega
      have hcell : Hid (True ∧ ∃ b o, A = some ⟨b, o, none⟩ ∧ b < wr.heap.size ∧ ∀ (j : Nat) x, (sel 4)[j]? = some x → wr.cell? ⟨b, o + j, none⟩ = some (.string x)) := by
        obtain ⟨A2, c2, hv, -, hA2⟩ := Ho.out.form
        injection hv with h1 _ h3
        subst h1
        obtain ⟨b, o, rfl, hb⟩ := hA2 (by decide)
        exact ⟨trivial, b, o, rfl, hb, fun j x hj => Ho.out.cells rfl j _ (by simp [strs, hj])⟩
      have hcap : 2 ≤ c := by
        obtain ⟨A2, c2, hv, hc2, -⟩ := Ho.out.form
        injection hv with _ _ h3
        subst h3
        exact hc2
      obtain ⟨b, o, rfl, hb, hcs⟩ := hcell.out.2
      have HJ := Lib.hid (Try.strings_Join b o c (sel 4) ⟨#[32]⟩ wr hcs hb (by decide) hcap (by decide))
      clear hcs hcell
      go_wp2_with (go_at_call 31; refine HJ.out.mono ?_; rintro e w3 ⟨rfl, hbel⟩)
      go_ret
      exact ⟨rfl, Hx.out.trans (Ext.of_below hbel)⟩
end Go.Proofs.Ytbicaejpckcfbaa
