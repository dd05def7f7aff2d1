/- The program's Text of every number. -/
import Derived.Test.YtbicaejpckcfbaaDoorM
import Derived.Test.YtbicaejpckcfbaaDoorJ
namespace Go.Proofs.YtbicaejpckcfbaaDoor
open Go.RowKit

def wordB : Nat → ByteArray
  | 0 => ⟨#[119, 114, 105, 116, 101]⟩
  | 1 => ⟨#[99, 117, 116]⟩
  | 2 => ⟨#[104, 111, 108, 101, 115]⟩
  | _ => ⟨#[115, 121, 110, 99]⟩
def bitB (c i : Nat) : Bool := decide (c / 2 ^ i % 2 = 1)
/-- The words of the bits below k. -/
def selB (c k : Nat) : List ByteArray := ((List.range k).filter fun i => bitB c i).map wordB
theorem selB_succ (c k : Nat) : selB c (k + 1) = selB c k ++ (if bitB c k then [wordB k] else []) := by
  unfold selB
  rw [List.range_succ, List.filter_append, List.map_append]
  congr 1
  cases h : bitB c k <;> simp [h]
theorem selB_len (c k : Nat) : (selB c k).length ≤ k := by
  unfold selB
  have := List.length_filter_le (fun i => bitB c i) (List.range k)
  rw [List.length_map]
  rwa [List.length_range] at this
theorem wordB_size (i : Nat) : (wordB i).data.size ≤ 5 := by
  unfold wordB
  split <;> decide
def joinB (l : List ByteArray) : ByteArray := ⟨(Lib.join (l.map (·.data.toList)) [32]).toArray⟩
def textN (c : Nat) : ByteArray := if 15 < c then ⟨#[]⟩ else if c = 0 then ⟨#[114, 101, 97, 100]⟩ else joinB (selB c 4)
theorem join_small : ∀ c : Fin 16, (Lib.join ((selB c.val 4).map (·.data.toList)) [32]).length ≤ 64 := by decide +kernel
theorem sel_pos : ∀ c : Fin 16, c.val ≠ 0 → 0 < (selB c.val 4).length := by decide +kernel
theorem bit_val : ∀ c : Fin 16, ∀ k : Fin 4, bits BinOp.and IntKind.u8 ((c.val : Int) / 2 ^ k.val) 1 = ((c.val / 2 ^ k.val % 2 : Nat) : Int) := by decide +kernel

def strs (l : List ByteArray) : List Value := l.map Value.string
theorem strs_one (l : List ByteArray) : ∀ u ∈ strs l, u.oneCell' = true := by
  intro u hu
  obtain ⟨b, _, rfl⟩ := List.mem_map.1 hu
  rfl
theorem Tryd.info9 : (Tryd.prog.info? 9).map (fun i => (i.zero, i.size, i.bytes)) = some (some (.string ByteArray.empty), 1, 16) := by kernel_rfl
def MineS (w wr : World) (v : Value) (ls : List ByteArray) : Prop := Ext w wr ∧ Own wr 9 1 v ls.length (strs ls) ∧ ∀ j, v.ownBlock = some j → w.heap.size ≤ j
theorem MineS.push {w wr w2 v v' ls x} (h : MineS w wr v ls) (o : Obj) (ho : Own w2 9 1 v' (ls.length + 1) (strs ls ++ strs [x])) (hg : (wr.alloc o).grownBy w2 v.ownBlock) (hv : v'.ownBlock = v.ownBlock ∨ v'.ownBlock = some (wr.alloc o).heap.size) : MineS w w2 v' (ls ++ [x]) := by
  refine ⟨(h.1.alloc o).grown hg (fun j hj => h.2.2 j hj), ?_, fun j hj => ?_⟩
  · rw [List.length_append]
    have : strs (ls ++ [x]) = strs ls ++ strs [x] := by simp [strs]
    rw [this]; exact ho
  · rcases hv with e | e
    · exact h.2.2 j (e ▸ hj)
    · rw [e] at hj; injection hj with hj; have := h.1.size; simp at hj; omega
theorem words_at (k : Nat) (hk : k < 4) (w : World) : (Instr.index 51 wordsV (.int .i64 (k : Int))).run Tryd.prog w = .ok (.string (wordB k)) w := by
  rcases (by omega : k = 0 ∨ k = 1 ∨ k = 2 ∨ k = 3) with rfl | rfl | rfl | rfl <;> kernel_rfl

set_option maxRecDepth 20000 in
set_option maxHeartbeats 1000000 in
theorem text_any (c : Nat) (w : World) : Calls Tryd.prog 8 #[.int .u8 (c : Int)] w fun e w' => e = .returned (.string (textN c)) ∧ Ext w w' := by
  by_cases h15 : 15 < c
  · have hv : Hid (textN c = ⟨#[]⟩) := if_pos h15
    go_enter Tryd.func8, Tryd.ntmps8
    go_wp2
    go_ret
    exact ⟨by rw [hv.out]; rfl, Ext.refl _⟩
  by_cases h0 : c = 0
  · have hv : Hid (textN c = ⟨#[114, 101, 97, 100]⟩) := by show _ = _; subst h0; rfl
    go_enter Tryd.func8, Tryd.ntmps8
    go_wp2
    go_ret
    exact ⟨by rw [hv.out]; rfl, Ext.refl _⟩
  have hv : Hid (textN c = joinB (selB c 4)) := by show _ = _; unfold textN; rw [if_neg h15, if_neg h0]
  have hj := join_small ⟨c, by omega⟩
  have hp := sel_pos ⟨c, by omega⟩ h0
  have Hj := Lib.hid hj
  have Hp := Lib.hid hp
  clear hj hp
  obtain ⟨WV, hW⟩ : ∃ v, v = wordsV := ⟨_, rfl⟩
  have xk := words_at
  rw [← hW] at xk
  have HW := Lib.hid hW
  clear hW
  obtain ⟨i, hi, hz, hs, hby⟩ := info_parts Tryd.info9
  go_enter Tryd.func8, Tryd.ntmps8
  go_wp2_with (go_at_call 18; refine (words_any _).mono ?_; rintro e w1 ⟨rfl, hx1⟩; rw [← HW.out])
  go_loopw [3, 11] (fun v i wr => ∃ (k : Nat) (A : Option Addr) (cp : Nat), k ≤ 4 ∧ i = .int .i64 (k : Int) ∧ v = .slice A (selB c k).length cp ∧ MineS w wr (.slice A (selB c k).length cp) (selB c k)) (fun _ i _ => 4 - (intOf i).toNat)
  case atStart => exact ⟨0, none, 0, by decide, rfl, rfl, hx1, Own.nil _ _ _, fun k h => by simp [Value.ownBlock] at h⟩
  case round =>
    obtain ⟨k, A, cp, hk, rfl, rfl, hM⟩ := hrel
    have HM := Lib.hid hM
    have hlen := selB_len c k
    clear hM
    by_cases hlt : k < 4
    · have hb := bit_val ⟨c, by omega⟩ ⟨k, hlt⟩
      simp only at hb
      obtain ⟨d, hd⟩ : ∃ d : Nat, c / 2 ^ k % 2 = d := ⟨_, rfl⟩
      rw [hd] at hb
      have xk0 := xk k hlt
      have Hs := Lib.hid (selB_succ c k)
      have hd2 : d = 0 ∨ d = 1 := by omega
      have Hd := Lib.hid hd
      clear hd
      rcases hd2 with rfl | rfl
      · have Hs2 : Hid (selB c (k + 1) = selB c k) := by show _ = _; rw [Hs.out]; simp [bitB, Hd.out]
        go_wp2_with fail
        go_roundw
        case rel => exact ⟨k + 1, A, cp, by omega, by go_num, by rw [Hs2.out], by rw [Hs2.out]; exact HM.out⟩
        case measure => simp [intOf]; omega
      · have Hs2 : Hid (selB c (k + 1) = selB c k ++ [wordB k]) := by show _ = _; rw [Hs.out]; simp [bitB, Hd.out]
        go_wp2_with (at_builtin; refine wpList_append_own_any _ rfl (.tmp 20) (.tmp 22) 49 rfl 9 i _ 1 16 Tryd.underlying49 hi hz hs hby rfl (by decide) (.slice A (selB c k).length cp) (selB c k).length (strs (selB c k)) rfl (HM.out.2.1.ext ((Ext.refl _).alloc _)) (some ⟨wr.heap.size, 0, none⟩) 1 1 (strs [wordB k]) rfl rfl (fun _ => ⟨_, rfl, new_cells _ _ _⟩) (strs_one _) (by unfold maxLen; omega) (by omega) ?_)
        intro v' w3 ho hg hv'
        have HN := Lib.hid (HM.out.push _ ho hg (by simpa using hv'))
        obtain ⟨A', c', rfl, -, -⟩ := ho.form
        clear ho hg hv'
        go_wp2_with fail
        go_roundw
        case rel => exact ⟨k + 1, A', c', by omega, by go_num, by rw [Hs2.out, List.length_append]; rfl, by rw [Hs2.out, List.length_append]; exact HN.out⟩
        case measure => simp [intOf]; omega
    · obtain rfl : k = 4 := by omega
      have hcell : Hid (True ∧ ∃ b o, A = some ⟨b, o, none⟩ ∧ b < wr.heap.size ∧ ∀ (j : Nat) x, (selB c 4)[j]? = some x → wr.cell? ⟨b, o + j, none⟩ = some (.string x)) := by
        obtain ⟨A2, c2, hv, -, hA2⟩ := HM.out.2.1.form
        injection hv with h1 _ h3
        subst h1
        obtain ⟨b, o, rfl, hb⟩ := hA2 Hp.out
        exact ⟨trivial, b, o, rfl, hb, fun j x hj => HM.out.2.1.cells rfl j _ (by simp [strs, hj])⟩
      have hcap : True ∧ (selB c 4).length ≤ cp := by
        obtain ⟨A2, c2, hv, hc2, -⟩ := HM.out.2.1.form
        injection hv with _ _ h3
        subst h3
        exact ⟨trivial, hc2⟩
      obtain ⟨b, o, rfl, hb, hcs⟩ := hcell.out.2
      have HJ := Lib.hid (Tryd.strings_Join b o cp (selB c 4) ⟨#[32]⟩ wr hcs hb (by omega) hcap.2 (Nat.le_trans Hj.out (by decide)))
      clear hcs hcell hcap
      go_wp2_with (go_at_call 19; refine HJ.out.mono ?_; rintro e w3 ⟨rfl, hbel⟩)
      go_ret
      exact ⟨by rw [hv.out]; rfl, HM.out.1.trans (Ext.of_below hbel)⟩
end Go.Proofs.YtbicaejpckcfbaaDoor
