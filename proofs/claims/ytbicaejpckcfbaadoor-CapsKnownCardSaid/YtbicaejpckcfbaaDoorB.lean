/- The table of the wrappers. -/
import Derived.Test.YtbicaejpckcfbaaDoorA
namespace Go.Proofs.YtbicaejpckcfbaaDoor
open Go.RowKit

def fn0 (k : Nat) : Value := .func (.func k) #[] #[]
def fnK (b : Nat) : Value := .func (.func 47) #[] #[.pointer (some ⟨b, 0, none⟩)]
/-- The table's 33 cells. -/
def tabCells (p0 p3 p6 p9 p10 : Nat) : Array Value := #[.int .i64 1, .int .i64 1, fnK p0, .int .i64 1, .int .i64 64, fn0 32, .int .i64 2, .int .i64 2, fn0 34, .int .i64 1, .int .i64 1, fnK p3, .int .i64 1, .int .i64 1, fn0 35, .int .i64 2, .int .i64 2, fn0 36, .int .i64 1, .int .i64 1, fnK p6, .int .i64 1, .int .i64 1, fn0 37, .int .i64 2, .int .i64 2, fn0 38, .int .i64 1, .int .i64 1, fnK p9, .int .i64 1, .int .i64 1, fnK p10]
structure TabAt (w : World) (b p0 p3 p6 p9 p10 : Nat) : Prop where
  blk : w.heap[b]? = some (.cells (tabCells p0 p3 p6 p9 p10) 62 (0, 0))
  k0 : w.cell? ⟨p0, 0, none⟩ = some (.int .u8 13)
  k3 : w.cell? ⟨p3, 0, none⟩ = some (.int .u8 15)
  k6 : w.cell? ⟨p6, 0, none⟩ = some (.int .u8 0)
  k9 : w.cell? ⟨p9, 0, none⟩ = some (.int .u8 15)
  k10 : w.cell? ⟨p10, 0, none⟩ = some (.int .u8 4)
theorem TabAt.ext {w w' b p0 p3 p6 p9 p10} (h : TabAt w b p0 p3 p6 p9 p10) (he : Ext w w') : TabAt w' b p0 p3 p6 p9 p10 :=
  ⟨(he.block b (Array.getElem?_eq_some_iff.1 h.blk).1 (fun f => f)).trans h.blk, he.cell_some h.k0, he.cell_some h.k3, he.cell_some h.k6, he.cell_some h.k9, he.cell_some h.k10⟩
def TablePost (w : World) (e : Ending) (w' : World) : Prop := ∃ b p0 p3 p6 p9 p10, e = .returned (.slice (some ⟨b, 0, none⟩) 11 11) ∧ Ext w w' ∧ TabAt w' b p0 p3 p6 p9 p10

set_option maxRecDepth 20000 in
theorem table_any (w : World) : Calls Tryd.prog 22 #[] w (TablePost w) := by
  go_enter Tryd.func22, Tryd.ntmps22
  go_wp2_with fail
  refine (kept_any 13 w).mono ?_
  rintro e w1 ⟨p0, rfl, x1, -, c1⟩
  unfold keptV
  go_wp2_with fail
  refine (kept_any 15 w1).mono ?_
  rintro e w2 ⟨p3, rfl, x2, -, c2⟩
  unfold keptV
  go_wp2_with fail
  refine (kept_any 0 w2).mono ?_
  rintro e w3 ⟨p6, rfl, x3, -, c3⟩
  unfold keptV
  go_wp2_with fail
  refine (kept_any 15 w3).mono ?_
  rintro e w4 ⟨p9, rfl, x4, -, c4⟩
  unfold keptV
  go_wp2_with fail
  refine (kept_any 4 w4).mono ?_
  rintro e w5 ⟨p10, rfl, x5, -, c5⟩
  unfold keptV
  go_wp2_with fail
  go_ret
  exact ⟨w5.heap.size, p0, p3, p6, p9, p10, rfl, (x1.trans (x2.trans (x3.trans (x4.trans x5)))).alloc _,
    heap_alloc_new w5 _, ((x2.trans (x3.trans (x4.trans x5))).alloc _).cell_some c1, ((x3.trans (x4.trans x5)).alloc _).cell_some c2, ((x4.trans x5).alloc _).cell_some c3, (x5.alloc _).cell_some c4, ((Ext.refl _).alloc _).cell_some c5⟩

/-- How many a wrapper may stand over. -/
def leastN (k : Nat) : Nat := if k = 2 ∨ k = 5 ∨ k = 8 then 2 else 1
def mostN (k : Nat) : Nat := if k = 1 then 64 else if k = 2 ∨ k = 5 ∨ k = 8 then 2 else 1
/-- What it keeps. -/
def keepN (k : Nat) (ls : List Nat) : Nat := match k with
  | 0 => A0 ls &&& 13
  | 1 => everyN ls &&& 13
  | 2 => teeN ls
  | 3 => A0 ls &&& 15
  | 4 => bufN (A0 ls)
  | 5 => everyN ls &&& 9
  | 6 => A0 ls &&& 0
  | 7 => cipN (A0 ls)
  | 8 => jourN ls
  | 9 => A0 ls &&& 15
  | _ => A0 ls &&& 4
/-- Over: the set, the error's number. -/
def overN (k : Int) (ls : List Nat) : Nat × Int :=
  if k < 0 ∨ 11 ≤ k then (0, 2) else if ls.length < leastN k.toNat ∨ mostN k.toNat < ls.length then (0, 2) else if ls.any (fun x => 15 < x) then (0, 2) else (keepN k.toNat ls, 0)
end Go.Proofs.YtbicaejpckcfbaaDoor
