/- All. -/
import Derived.Test.YtbicaejpckcfbaaDoorL
namespace Go.Proofs.YtbicaejpckcfbaaDoor
open Go.RowKit

def selN (c k : Nat) : List Nat := (List.range k).filter fun a => lessB a c
def allN (c : Nat) : List Nat := if c < 16 then selN c 16 else []
theorem selN_succ (c k : Nat) : selN c (k + 1) = selN c k ++ (if lessB k c then [k] else []) := by
  unfold selN
  rw [List.range_succ, List.filter_append]
  congr 1
  simp [List.filter_cons]
theorem selN_len (c k : Nat) : (selN c k).length ≤ k := by
  have := List.length_filter_le (fun a => lessB a c) (List.range k)
  rwa [List.length_range] at this
theorem selN_top {c : Nat} (d : Nat) : selN c (c + 1 + d) = selN c (c + 1) := by
  induction d with
  | zero => rfl
  | succ d ih =>
    rw [Nat.add_succ, selN_succ, ih]
    have : lessB (c + 1 + d) c = false := by
      unfold lessB
      rw [decide_eq_false_iff_not]
      intro h
      have : (c + 1 + d) &&& c ≤ c := Nat.and_le_right
      omega
    simp [this]
theorem allN_le {c : Nat} (h : c < 16) : allN c = selN c (c + 1) := by
  unfold allN
  rw [if_pos h]
  have := selN_top (c := c) (15 - c)
  rwa [show c + 1 + (15 - c) = 16 from by omega] at this
theorem allN_len (c : Nat) : (allN c).length ≤ 16 := by
  unfold allN
  split
  · exact selN_len c 16
  · simp
def AllPost (c : Nat) (w : World) (e : Ending) (w' : World) : Prop := ∃ A cp, e = .returned (.slice A (allN c).length cp) ∧ Ext w w' ∧ Own w' 5 1 (.slice A (allN c).length cp) (allN c).length (u8s (allN c)) ∧ ∀ j, (Value.slice A (allN c).length cp).ownBlock = some j → w.heap.size ≤ j
/-- A list of the call's own. -/
def Mine (w wr : World) (v : Value) (ls : List Nat) : Prop := Ext w wr ∧ Own wr 5 1 v ls.length (u8s ls) ∧ ∀ j, v.ownBlock = some j → w.heap.size ≤ j
theorem Mine.nil (w : World) : Mine w w (.slice none 0 0) [] := ⟨Ext.refl _, Own.nil _ _ _, fun k h => by simp [Value.ownBlock] at h⟩
theorem Mine.ext {w wr wr' v ls} (h : Mine w wr v ls) (he : Ext wr wr') : Mine w wr' v ls := ⟨h.1.trans he, h.2.1.ext he, h.2.2⟩
theorem Mine.push {w wr w2 v v' ls x} (h : Mine w wr v ls) (o : Obj) (ho : Own w2 5 1 v' (ls.length + 1) (u8s ls ++ u8s [x])) (hg : (wr.alloc o).grownBy w2 v.ownBlock) (hv : v'.ownBlock = v.ownBlock ∨ v'.ownBlock = some (wr.alloc o).heap.size) : Mine w w2 v' (ls ++ [x]) := by
  refine ⟨(h.1.alloc o).grown hg (fun j hj => h.2.2 j hj), ?_, fun j hj => ?_⟩
  · rw [List.length_append]
    have : u8s (ls ++ [x]) = u8s ls ++ u8s [x] := by simp [u8s]
    rw [this]; exact ho
  · rcases hv with e | e
    · exact h.2.2 j (e ▸ hj)
    · rw [e] at hj; injection hj with hj; have := h.1.size; simp at hj; omega

set_option maxRecDepth 20000 in
set_option maxHeartbeats 1000000 in
theorem all_any (c : Nat) (hc : c < 256) (w : World) : Calls Tryd.prog 9 #[.int .u8 (c : Int)] w (AllPost c w) := by
  obtain ⟨i, hi, hz, hsz, hby⟩ := info_parts Tryd.info5
  by_cases h16 : c < 16
  · have hw := wrap8 (c + 1) (by omega)
    have Hall := Lib.hid (allN_le h16)
    go_enter Tryd.func9, Tryd.ntmps9
    go_wp2_with fail
    go_loopw [3, 9] (fun l i wr => ∃ (k : Nat) (A : Option Addr) (cp : Nat), k ≤ c + 1 ∧ i = .int .u8 (k : Int) ∧ l = .slice A (selN c k).length cp ∧ Mine w wr (.slice A (selN c k).length cp) (selN c k)) (fun _ i _ => c + 1 - (intOf i).toNat)
    case atStart => exact ⟨0, none, 0, Nat.zero_le _, rfl, rfl, Mine.nil w⟩
    case round =>
      obtain ⟨k, A, cp, hk, rfl, rfl, hM⟩ := hrel
      have HM := Lib.hid hM
      have hlen := selN_len c k
      clear hM
      by_cases hlt : k < c + 1
      · have hwk := wrap8 (k + 1) (by omega)
        go_wp2_with fail
        refine (less_any k c (by omega) hc wr).mono ?_
        rintro e w2 ⟨rfl, rfl⟩
        cases hless : lessB k c with
        | true =>
          have Hs : Hid (selN c (k + 1) = selN c k ++ [k]) := by show _ = _; rw [selN_succ, hless]; rfl
          clear hless
          go_wp2_with (at_builtin; refine wpList_append_own_any _ rfl (.tmp 15) (.tmp 17) 28 rfl 5 i _ 1 1 Tryd.underlying28 hi hz hsz hby rfl (by decide) (.slice A (selN c k).length cp) (selN c k).length (u8s (selN c k)) rfl (HM.out.2.1.ext ((Ext.refl _).alloc _)) (some ⟨w2.heap.size, 0, none⟩) 1 1 (u8s [k]) rfl rfl (fun _ => ⟨_, rfl, new_cells _ _ _⟩) (u8s_one [k]) (by unfold maxLen; omega) (by omega) ?_)
          intro v' w3 ho hg hv'
          have HN := Lib.hid (HM.out.push _ ho hg (by simpa using hv'))
          obtain ⟨A', c', rfl, -, -⟩ := ho.form
          clear ho hg hv'
          go_wp2_with fail
          go_roundw
          case rel => exact ⟨k + 1, A', c', by omega, by go_num, by rw [Hs.out, List.length_append]; rfl, by rw [Hs.out, List.length_append]; exact HN.out⟩
          case measure => simp [intOf]; omega
        | false =>
          have Hs : Hid (selN c (k + 1) = selN c k) := by show _ = _; rw [selN_succ, hless]; simp
          clear hless
          go_wp2_with fail
          go_roundw
          case rel => exact ⟨k + 1, A, cp, by omega, by go_num, by rw [Hs.out], by rw [Hs.out]; exact HM.out⟩
          case measure => simp [intOf]; omega
      · have hkc : k = c + 1 := by omega
        have He : Hid (allN c = selN c k) := by show _ = _; rw [hkc]; exact Hall.out
        clear hkc
        go_wp2_with fail
        go_ret
        refine ⟨A, cp, by rw [He.out]; rfl, HM.out.1, ?_, ?_⟩
        · rw [He.out]; exact HM.out.2.1
        · rw [He.out]; exact HM.out.2.2
  · have He : Hid (allN c = []) := if_neg h16
    go_enter Tryd.func9, Tryd.ntmps9
    go_wp2_with fail
    go_ret
    refine ⟨none, 0, by rw [He.out]; rfl, Ext.refl _, ?_, ?_⟩
    · rw [He.out]; exact (Mine.nil w).2.1
    · rw [He.out]; exact (Mine.nil w).2.2

end Go.Proofs.YtbicaejpckcfbaaDoor
