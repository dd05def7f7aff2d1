/- 'circle': does the last one of a row of waiting ones make its who wait for itself? -/
import Derived.Test.YtpjgfkdnjkfnfaaG
import Derived.Laws.EntriesVeiled
namespace Go.Proofs.Ytpjgfkdnjkfnfaa
open Go.RowKit Go.Maps

def CircPost (H ws : List Lk) (who : Int) (w : World) (e : Ending) (w' : World) : Prop := ∃ r : Bool, e = .returned (.bool r) ∧ (r = true ↔ Way H ws who who) ∧ Ext w w'

theorem unseen_le {H ws : List Lk} (m : Int → Int) (h : H.length ≤ 256) (hw : ws.length ≤ 256) : unseen H ws m ≤ 131072 + 65536 := by
  have key : ∀ (p : Lk → Bool) (l : List Lk) (i : Nat), i + l.length ≤ 256 → sumIf p H.length l i ≤ l.length * 513 := by
    intro p l
    induction l with
    | nil => intro i _; simp [sumIf]
    | cons x l ih =>
      intro i hi
      have := ih (i + 1) (by simp at hi; omega)
      simp only [sumIf, List.length_cons]
      simp at hi
      split <;> omega
  have := key (fun x => !decide (1 ≤ m x.who)) ws 0 (by omega)
  unfold unseen
  omega

set_option maxRecDepth 20000 in
set_option maxHeartbeats 1000000 in
theorem circle_any (t : Nat) (Aw : Option Addr) (nw cw : Nat) (ws : List Lk) (A : Option Addr) (nh ch : Nat) (H : List Lk) (lst : Lk) (w : World)
    (hcell : w.cell? ⟨t, 0, none⟩ = some (.slice A nh ch)) (hs : LkSl w Aw nw ws) (hh : LkSl w A nh H) (hH : ∀ l ∈ H, mayB l = true) (hW : ∀ l ∈ ws, mayB l = true) (hnw : nw ≤ 256) (hnh : nh ≤ 256) (hcw : nw ≤ cw)
    (hl : ws[nw - 1]? = some lst) (hpos : 1 ≤ nw) :
    Calls Try.prog 28 #[.pointer (some ⟨t, 0, none⟩), .slice Aw nw cw] w (CircPost H ws lst.who w) := by
  obtain ⟨b, off, rfl, hb, hce⟩ := hs.2 (by omega)
  obtain ⟨e1, -, -, -⟩ := hce (nw - 1) lst hl
  obtain ⟨x1, x2, -, -, -, -⟩ := (may_iff _).1 (hW lst (List.mem_of_getElem? hl))
  have htl : t < w.heap.size := World.block_lt_of_cell? w _ hcell
  have Hs := Lib.hid hs
  have Hh := Lib.hid hh
  have Hc := Lib.hid hcell
  have L := Lib.hid (@look_any t (w.heap.size + 1 + 1 + 1) (w.heap.size + 1 + 1 + 1 + 1) (w.heap.size + 1) w.heap.size (w.heap.size + 1 + 1) (w.heap.size + 1 + 1 + 1 + 1 + 1) (some ⟨b, off, none⟩) nw cw ws A nh ch H lst.who hH hW hnw hnh hcw 1000000 lst.who 0 (fun _ => 0))
  have Hu : Hid (unseen H ws (fun _ => 0) ≤ 131072 + 65536) := unseen_le _ (by have := hh.1; omega) (by have := hs.1; omega)
  have hmm := @run_makeMap Try.prog
  clear hce hl hH hW hs hh hcell
  obtain ⟨n1, rfl⟩ : ∃ n1, nw = n1 + 1 := ⟨nw - 1, by omega⟩
  simp only [Nat.add_sub_cancel] at e1
  go_enter Try.func28, Try.ntmps28
  go_wp2_with fail
  refine (L.out _ (by have := Hu.out; omega) x1 x2 ⟨by go_simp, by go_simp, by go_simp, by go_simp, by go_simp, ?_, ?_, ?_⟩ ?_ (fun k => by simp) (by have := Hu.out; omega)).mono ?_
  · refine Ext.cell_some (?_ : Ext w _) Hc.out
    repeat (first | assumption | exact Ext.refl _ | exact Mod.refl _ _ | refine Ext.trans ?_ (by assumption) | apply Ext.alloc | apply Ext.drew | apply Ext.drewN)
  · refine Hs.out.ext ?_
    repeat (first | assumption | exact Ext.refl _ | exact Mod.refl _ _ | refine Ext.trans ?_ (by assumption) | apply Ext.alloc | apply Ext.drew | apply Ext.drewN)
  · refine Hh.out.ext ?_
    repeat (first | assumption | exact Ext.refl _ | exact Mod.refl _ _ | refine Ext.trans ?_ (by assumption) | apply Ext.alloc | apply Ext.drew | apply Ext.drewN)
  · refine IMap.mod (S := fun _ => False) (w := ((w.alloc _).alloc _).alloc _ |>.alloc (.map #[] 0)) ?_ ((Mod.refl _ _).alloc _ |>.alloc _) (fun f => f)
    have := IMap.made (((w.alloc (.cells #[.pointer (some ⟨t, 0, none⟩)] 23)).alloc (.cells #[.slice (some ⟨b, off, none⟩) (n1 + 1) cw] 25)).alloc (.cells #[.int .i64 lst.who] 3))
    simpa using this
  rintro e w2 ⟨r, m', c', rfl, hM, hI, hB, hC, hL⟩
  have H2 : Hid (Looked H ws lst.who lst.who r (fun _ => 0) m') := hL
  have HM := Lib.hid hM
  clear hM hI hB hC hL
  go_wp2_with fail
  go_ret
  refine ⟨r, rfl, H2.out.top, ?_⟩
  refine Mod.trans (S := fun _ => False) (?_ : Ext w _) HM.out ?_
  · repeat (first | assumption | exact Ext.refl _ | exact Mod.refl _ _ | refine Ext.trans ?_ (by assumption) | apply Ext.alloc | apply Ext.drew | apply Ext.drewN)
  · rintro i hi rfl
    omega
end Go.Proofs.Ytpjgfkdnjkfnfaa
