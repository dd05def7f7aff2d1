/- Sets of four bits; slices of them; the contracts of every, kept and the closures of the table. -/
import Derived.Test.YtbicaejpckcfbaaDoorChecked
import Derived.Test.YtbicaejpckcfbaaDoorBase
import Derived.Laws.EntriesVeiled
namespace Go.Proofs.YtbicaejpckcfbaaDoor
open Go.RowKit

/-- A slice value that reads as a list of small numbers. -/
def SetSl (w : World) (A : Option Addr) (n : Nat) (ls : List Nat) : Prop :=
  n = ls.length ∧ (0 < n → ∃ b off, A = some ⟨b, off, none⟩ ∧ b < w.heap.size ∧ ∀ (k x : Nat), ls[k]? = some x → w.cell? ⟨b, off + k, none⟩ = some (.int .u8 (x : Int)))
theorem SetSl.ext {w w' : World} {A n ls} (h : SetSl w A n ls) (he : Ext w w') : SetSl w' A n ls := by
  refine ⟨h.1, fun hn => ?_⟩
  obtain ⟨b, off, rfl, hb, hc⟩ := h.2 hn
  exact ⟨b, off, rfl, Nat.lt_of_lt_of_le hb he.size, fun k x hk => (he.cell hb).trans (hc k x hk)⟩
theorem SetSl.mod {S : Nat → Prop} {w w' : World} {A n ls} (h : SetSl w A n ls) (hm : Mod S w w') (hs : ∀ k, (Value.slice A n n).ownBlock = some k → ¬ S k) : SetSl w' A n ls := by
  refine ⟨h.1, fun hn => ?_⟩
  obtain ⟨b, off, rfl, hb, hc⟩ := h.2 hn
  exact ⟨b, off, rfl, Nat.lt_of_lt_of_le hb hm.size, fun k x hk => (hm.cell hb (hs b rfl)).trans (hc k x hk)⟩
theorem Ext.cell_some {w w' : World} (h : Ext w w') {p : Addr} {v : Value} (hc : w.cell? p = some v) : w'.cell? p = some v := (h.cell (World.block_lt_of_cell? w p hc)).trans hc

def eand (acc : Nat) (ls : List Nat) : Nat := ls.foldl (· &&& ·) acc
def everyN (ls : List Nat) : Nat := eand 15 ls
theorem and_small : ∀ a b : Fin 16, a.val &&& b.val < 16 := by decide
theorem eand_small (ls : List Nat) : ∀ acc, acc < 16 → (∀ x ∈ ls, x < 16) → eand acc ls < 16 := by
  induction ls with
  | nil => intro acc h _; exact h
  | cons x ls ih =>
    intro acc h hs
    exact ih _ (and_small ⟨acc, h⟩ ⟨x, hs x (List.mem_cons_self ..)⟩) (fun y hy => hs y (List.mem_cons_of_mem _ hy))
theorem bits_and16 {a b : Nat} (ha : a < 16) (hb : b < 16) : bits BinOp.and IntKind.u8 (a : Int) (b : Int) = ((a &&& b : Nat) : Int) := by
  have h : ∀ a b : Fin 16, bits BinOp.and IntKind.u8 (a.val : Int) (b.val : Int) = ((a.val &&& b.val : Nat) : Int) := by decide
  exact h ⟨a, ha⟩ ⟨b, hb⟩

set_option maxRecDepth 20000 in
theorem every_any (A : Option Addr) (n c : Nat) (ls : List Nat) (w : World) (hs : SetSl w A n ls) (hn : n ≤ 9223372036854775807) (h16 : ∀ x ∈ ls, x < 16) :
    Calls Tryd.prog 33 #[.slice A n c] w fun e w' => e = .returned (.int .u8 (everyN ls : Int)) ∧ Ext w w' := by
  have Hs := Lib.hid hs
  have H16 := Lib.hid h16
  clear hs h16
  go_enter Tryd.func33, Tryd.ntmps33
  go_wp2_with fail
  go_loopw [3, 8] (fun a i wr => ∃ k : Nat, k ≤ n ∧ i = .int .i64 k ∧ a = .int .u8 (everyN (ls.take k) : Int) ∧ Ext w wr) (fun _ i _ => n - (intOf i).toNat)
  case atStart => exact ⟨0, Nat.zero_le _, rfl, rfl, Ext.refl _⟩
  case round =>
    obtain ⟨k, hk, rfl, rfl, hx⟩ := hrel
    by_cases hlt : k < n
    · obtain ⟨b, off, rfl, hb, hce⟩ := (Hs.out.ext hx).2 (by omega)
      have hkl : k < ls.length := by have := Hs.out.1; omega
      have c0 := hce k ls[k] (List.getElem?_eq_getElem hkl)
      have hx16 := H16.out ls[k] (List.getElem_mem hkl)
      have ha16 : everyN (ls.take k) < 16 := eand_small _ 15 (by decide) (fun x hx => H16.out x (List.mem_of_mem_take hx))
      have hb2 := bits_and16 ha16 hx16
      have Hst : Hid (everyN (ls.take (k + 1)) = everyN (ls.take k) &&& ls[k]) := by
        show _ = _
        unfold everyN eand
        rw [List.take_succ_eq_append_getElem hkl, List.foldl_append]
        rfl
      clear hce
      go_wp2_with fail
      go_roundw
      case rel => exact ⟨k + 1, by omega, by go_num, by rw [Hst.out], hx⟩
      case measure => simp [intOf]; omega
    · have hkn : k = n := by omega
      have He : Hid (everyN (ls.take k) = everyN ls) := by show _ = _; rw [hkn, Hs.out.1, List.take_length]
      clear hkn
      go_wp2_with fail
      go_ret
      exact ⟨by rw [He.out]; rfl, hx⟩

/-- What 'kept' hands out. -/
def keptV (b : Nat) : Value := .agg #[.int .i64 1, .int .i64 1, .func (.func 47) #[] #[.pointer (some ⟨b, 0, none⟩)]]
def KeptPost (m : Int) (w : World) (e : Ending) (w' : World) : Prop := ∃ b, e = .returned (keptV b) ∧ Ext w w' ∧ w.heap.size ≤ b ∧ w'.cell? ⟨b, 0, none⟩ = some (.int .u8 m)
theorem kept_any (m : Int) (w : World) : Calls Tryd.prog 31 #[.int .u8 m] w (KeptPost m w) := by
  go_enter Tryd.func31, Tryd.ntmps31
  go_wp2
  (try simp only [Exit.inBlock, Exit.then])
  refine bodyPost_ret (results_cell_row rfl _ _ (w.heap.size + 1) 62 _ (0, 0) _ rfl (heap_alloc2_new w _ _) Tryd.underlying62 rfl (by kernel_rfl)) rfl ?_
  exact ⟨w.heap.size, rfl, ((Ext.refl _).alloc _).alloc _, Nat.le_refl _, ((Ext.refl _).alloc _).cell_new 0⟩

/-- The four words. -/
def wordsV : Value := .agg #[.string ⟨#[119, 114, 105, 116, 101]⟩, .string ⟨#[99, 117, 116]⟩, .string ⟨#[104, 111, 108, 101, 115]⟩, .string ⟨#[115, 121, 110, 99]⟩]
theorem words_any (w : World) : Calls Tryd.prog 18 #[] w fun e w' => e = .returned wordsV ∧ Ext w w' := by
  go_enter Tryd.func18, Tryd.ntmps18
  go_wp2
  (try simp only [Exit.inBlock, Exit.then])
  refine bodyPost_ret (results_cell_row rfl _ _ w.heap.size 51 _ (0, 0) _ rfl (heap_alloc_new w _) Tryd.underlying51 rfl (by kernel_rfl)) rfl ?_
  exact ⟨rfl, (Ext.refl _).alloc _⟩

/-! The closures. -/
theorem and_le (a b : Nat) (h : a < 16) : a &&& b < 16 := Nat.lt_of_le_of_lt Nat.and_le_left h
def A0 (ls : List Nat) : Nat := ls.getD 0 0
def A1 (ls : List Nat) : Nat := ls.getD 1 0
section
variable (A : Option Addr) (n c : Nat) (ls : List Nat) (w : World)
theorem kept1_any (b : Nat) (m : Nat) (hs : SetSl w A n ls) (hn : 0 < n) (h16 : ∀ x ∈ ls, x < 16) (hm : m < 16) (hb : w.cell? ⟨b, 0, none⟩ = some (.int .u8 (m : Int))) (hc : n ≤ 9223372036854775807) :
    Calls Tryd.prog 47 #[.slice A n c, .pointer (some ⟨b, 0, none⟩)] w fun e w' => e = .returned (.int .u8 ((A0 ls &&& m : Nat) : Int)) ∧ Ext w w' := by
  obtain ⟨g, off, rfl, hg, hce⟩ := hs.2 hn
  have hl : 0 < ls.length := by have := hs.1; omega
  have h0 : ls[0]? = some (A0 ls) := by cases ls with | nil => simp at hl | cons x l => rfl
  have ha : A0 ls < 16 := h16 _ (List.mem_of_getElem? h0)
  have c0 := hce 0 _ h0
  have hbw := World.block_lt_of_cell? w _ hb
  have k0 : ∀ wx, Ext w wx → wx.cell? ⟨g, off, none⟩ = some (.int .u8 (A0 ls : Int)) := fun wx h => h.cell_some c0
  have k1 : ∀ wx, Ext w wx → wx.cell? ⟨b, 0, none⟩ = some (.int .u8 (m : Int)) := fun wx h => h.cell_some hb
  have hbit := bits_and16 ha hm
  clear hce c0 h0 hs h16
  go_enter Tryd.func47, Tryd.ntmps47
  go_wp2_with fail
  refine region_lin (fun wx => Ext w wx) 100000 [(0, 3), (1, 3), (2, 0), (3, 0), (4, 3), (5, 3)] ?_ (by kernel_rfl) (by kernel_rfl) ?_ (fun _ _ _ _ _ h => h) ((Ext.refl _).drew) ?_
  rotate_left
  (simp only [planOps, List.mapM_cons, List.mapM_nil, List.getElem?_toArray, List.getElem?_cons_zero, List.getElem?_cons_succ, Option.map_some, Option.bind_eq_bind, Option.bind_some, Option.pure_def]; rfl)
  intro wd hwd hxd
  repeat (first | (refine lin_take ?_ (by rfl) (fun wx hx => ?_) ?_; rotate_left; go_simp; (with_reducible rfl); try simp only [Act.put, List.setIfInBounds_toArray, List.set_cons_zero, List.set_cons_succ]) | (refine lin_skip (by rfl) ?_; try simp only [Act.put, List.setIfInBounds_toArray, List.set_cons_zero, List.set_cons_succ]) | (refine lin_take3 ?_ (by rfl) (fun wx hx => ?_) ?_; rotate_left; go_simp; (with_reducible rfl); try simp only [Act.put, List.setIfInBounds_toArray, List.set_cons_zero, List.set_cons_succ]))
  refine lin_nil ?_
  clear k0 k1
  go_wp2_with fail
  go_ret
  exact ⟨rfl, hxd⟩
theorem bits_or16 {a b : Nat} (ha : a < 16) (hb : b < 16) : bits BinOp.or IntKind.u8 (a : Int) (b : Int) = ((a ||| b : Nat) : Int) := by
  have h : ∀ a b : Fin 16, bits BinOp.or IntKind.u8 (a.val : Int) (b.val : Int) = ((a.val ||| b.val : Nat) : Int) := by decide
  exact h ⟨a, ha⟩ ⟨b, hb⟩
theorem bits_not2 {a : Nat} (ha : a < 16) : bits BinOp.andNot IntKind.u8 (a : Int) 2 = ((a &&& 13 : Nat) : Int) := by
  have h : ∀ a : Fin 16, bits BinOp.andNot IntKind.u8 (a.val : Int) 2 = ((a.val &&& 13 : Nat) : Int) := by decide
  exact h ⟨a, ha⟩
theorem bits_not4 {a : Nat} (ha : a < 16) : bits BinOp.andNot IntKind.u8 (a : Int) 4 = ((a &&& 11 : Nat) : Int) := by
  have h : ∀ a : Fin 16, bits BinOp.andNot IntKind.u8 (a.val : Int) 4 = ((a.val &&& 11 : Nat) : Int) := by decide
  exact h ⟨a, ha⟩
theorem bits_c {a m : Nat} (ha : a < 16) (hm : m < 16) (M : Int) (hM : M = (m : Int)) : bits BinOp.and IntKind.u8 (a : Int) M = ((a &&& m : Nat) : Int) := by rw [hM]; exact bits_and16 ha hm
theorem everyN_small {ls : List Nat} (h16 : ∀ x ∈ ls, x < 16) : everyN ls < 16 := eand_small _ 15 (by decide) h16

/-- What the wrappers keep. -/
def bufN (a : Nat) : Nat := if (a &&& 11) &&& 1 = 0 then a &&& 11 else (a &&& 11) ||| 8
def cipN (a : Nat) : Nat := if (a &&& 11) &&& 1 = 0 then (a &&& 11) &&& 13 else a &&& 11
def jourN (ls : List Nat) : Nat := if everyN ls &&& 1 = 0 then 0 else if A1 ls &&& 2 = 0 then 0 else 9 ||| (A0 ls &&& 2)
def teeN (ls : List Nat) : Nat := (everyN ls &&& 11) ||| (A0 ls &&& 4)

theorem k23_any (hs : SetSl w A n ls) (h16 : ∀ x ∈ ls, x < 16) (hc : n ≤ 9223372036854775807) :
    Calls Tryd.prog 32 #[.slice A n c] w fun e w' => e = .returned (.int .u8 ((everyN ls &&& 13 : Nat) : Int)) ∧ Ext w w' := by
  have hb := bits_not2 (everyN_small h16)
  go_enter Tryd.func32, Tryd.ntmps32
  go_wp2_with (go_at_call 33; refine (every_any A n c ls w hs hc h16).mono ?_; rintro e w1 ⟨rfl, hx⟩)
  go_ret
  exact ⟨rfl, hx⟩
theorem k27_any (hs : SetSl w A n ls) (h16 : ∀ x ∈ ls, x < 16) (hc : n ≤ 9223372036854775807) :
    Calls Tryd.prog 36 #[.slice A n c] w fun e w' => e = .returned (.int .u8 ((everyN ls &&& 9 : Nat) : Int)) ∧ Ext w w' := by
  have hb := bits_c (everyN_small h16) (m := 9) (by decide) 9 rfl
  go_enter Tryd.func36, Tryd.ntmps36
  go_wp2_with (go_at_call 33; refine (every_any A n c ls w hs hc h16).mono ?_; rintro e w1 ⟨rfl, hx⟩)
  go_ret
  exact ⟨rfl, hx⟩
theorem first_cell {A : Option Addr} {n : Nat} {ls : List Nat} {w : World} (hs : SetSl w A n ls) (hn : 0 < n) (h16 : ∀ x ∈ ls, x < 16) : ∃ g off, A = some ⟨g, off, none⟩ ∧ A0 ls < 16 ∧ ∀ wx, Ext w wx → wx.cell? ⟨g, off, none⟩ = some (.int .u8 (A0 ls : Int)) := by
  obtain ⟨g, off, rfl, hg, hce⟩ := hs.2 hn
  have hl : 0 < ls.length := by have := hs.1; omega
  have h0 : ls[0]? = some (A0 ls) := by cases ls with | nil => simp at hl | cons x l => rfl
  exact ⟨g, off, rfl, h16 _ (List.mem_of_getElem? h0), fun wx h => h.cell_some (hce 0 _ h0)⟩
theorem k25_any (hs : SetSl w A n ls) (hn : 0 < n) (h16 : ∀ x ∈ ls, x < 16) (hc : n ≤ 9223372036854775807) :
    Calls Tryd.prog 34 #[.slice A n c] w fun e w' => e = .returned (.int .u8 ((teeN ls : Nat) : Int)) ∧ Ext w w' := by
  obtain ⟨g, off, rfl, ha, k0⟩ := first_cell hs hn h16
  have hb := bits_not4 (everyN_small h16)
  have hb2 := bits_c ha (m := 4) (by decide) 4 rfl
  have hb3 := bits_or16 (and_le (everyN ls) 11 (everyN_small h16)) (and_le (A0 ls) 4 ha)
  have Hs := Lib.hid hs
  have H16 := Lib.hid h16
  clear hs h16
  go_enter Tryd.func34, Tryd.ntmps34
  go_wp2_with fail
  refine region_lin (fun wx => Ext w wx) 100000 [(0, 3), (3, 3), (4, 3), (5, 0), (6, 3), (1, 1), (2, 3), (7, 3), (8, 3)] ?_ (by kernel_rfl) (by kernel_rfl) ?_ (fun _ _ _ _ _ h => h) ((Ext.refl _).drew) ?_
  rotate_left
  (simp only [planOps, List.mapM_cons, List.mapM_nil, List.getElem?_toArray, List.getElem?_cons_zero, List.getElem?_cons_succ, Option.map_some, Option.bind_eq_bind, Option.bind_some, Option.pure_def]; rfl)
  intro wd hwd hxd
  repeat (first | (refine lin_take ?_ (by rfl) (fun wx hx => ?_) ?_; rotate_left; go_simp; (with_reducible rfl); try simp only [Act.put, List.setIfInBounds_toArray, List.set_cons_zero, List.set_cons_succ]) | (refine lin_skip (by rfl) ?_; try simp only [Act.put, List.setIfInBounds_toArray, List.set_cons_zero, List.set_cons_succ]) | (refine lin_take3 ?_ (by rfl) (fun wx hx => ?_) ?_; rotate_left; go_simp; (with_reducible rfl); try simp only [Act.put, List.setIfInBounds_toArray, List.set_cons_zero, List.set_cons_succ]))
  refine lin_run (by rfl) (fun K hK => ?_)
  go_simp
  refine (every_any _ n c ls wd (Hs.out.ext hxd) hc H16.out).mono ?_
  rintro e w1 ⟨rfl, hx⟩
  refine hK _ _ (hwd.trans hx) ?_
  try simp only [Act.put, List.setIfInBounds_toArray, List.set_cons_zero, List.set_cons_succ]
  repeat (first | (refine lin_take ?_ (by rfl) (fun wx hx => ?_) ?_; rotate_left; go_simp; (with_reducible rfl); try simp only [Act.put, List.setIfInBounds_toArray, List.set_cons_zero, List.set_cons_succ]) | (refine lin_skip (by rfl) ?_; try simp only [Act.put, List.setIfInBounds_toArray, List.set_cons_zero, List.set_cons_succ]) | (refine lin_take3 ?_ (by rfl) (fun wx hx => ?_) ?_; rotate_left; go_simp; (with_reducible rfl); try simp only [Act.put, List.setIfInBounds_toArray, List.set_cons_zero, List.set_cons_succ]))
  refine lin_nil ?_
  have e5 := hwd.trans hx
  clear k0
  go_wp2_with fail
  go_ret
  exact ⟨rfl, e5⟩
theorem k26_any (hs : SetSl w A n ls) (hn : 0 < n) (h16 : ∀ x ∈ ls, x < 16) :
    Calls Tryd.prog 35 #[.slice A n c] w fun e w' => e = .returned (.int .u8 ((bufN (A0 ls) : Nat) : Int)) ∧ Ext w w' := by
  obtain ⟨g, off, rfl, ha, k0⟩ := first_cell hs hn h16
  have c0 := k0 w (Ext.refl _)
  have hb := bits_not4 ha
  have hb2 := bits_c (and_le (A0 ls) 11 ha) (m := 1) (by decide) 1 rfl
  have hb3 : bits BinOp.or IntKind.u8 ((A0 ls &&& 11 : Nat) : Int) 8 = (((A0 ls &&& 11) ||| 8 : Nat) : Int) := bits_or16 (b := 8) (and_le (A0 ls) 11 ha) (by decide)
  clear hs h16
  obtain ⟨d, hd⟩ : ∃ d : Nat, (A0 ls &&& 11) &&& 1 = d := ⟨_, rfl⟩
  rw [hd] at hb2
  have Hd := Lib.hid hd
  clear hd
  by_cases h : d = 0
  · have hv : Hid (bufN (A0 ls) = A0 ls &&& 11) := if_pos (Hd.out.trans h)
    go_enter Tryd.func35, Tryd.ntmps35
    go_wp2
    go_ret
    exact ⟨by rw [hv.out]; rfl, Ext.refl _⟩
  · have hv : Hid (bufN (A0 ls) = (A0 ls &&& 11) ||| 8) := if_neg (fun e => h (Hd.out.symm.trans e))
    go_enter Tryd.func35, Tryd.ntmps35
    go_wp2
    go_ret
    exact ⟨by rw [hv.out]; rfl, Ext.refl _⟩
theorem k28_any (hs : SetSl w A n ls) (hn : 0 < n) (h16 : ∀ x ∈ ls, x < 16) :
    Calls Tryd.prog 37 #[.slice A n c] w fun e w' => e = .returned (.int .u8 ((cipN (A0 ls) : Nat) : Int)) ∧ Ext w w' := by
  obtain ⟨g, off, rfl, ha, k0⟩ := first_cell hs hn h16
  have c0 := k0 w (Ext.refl _)
  have hb := bits_not4 ha
  have hb2 := bits_c (and_le (A0 ls) 11 ha) (m := 1) (by decide) 1 rfl
  have hb3 := bits_not2 (and_le (A0 ls) 11 ha)
  clear hs h16
  obtain ⟨d, hd⟩ : ∃ d : Nat, (A0 ls &&& 11) &&& 1 = d := ⟨_, rfl⟩
  rw [hd] at hb2
  have Hd := Lib.hid hd
  clear hd
  by_cases h : d = 0
  · have hv : Hid (cipN (A0 ls) = (A0 ls &&& 11) &&& 13) := if_pos (Hd.out.trans h)
    go_enter Tryd.func37, Tryd.ntmps37
    go_wp2
    go_ret
    exact ⟨by rw [hv.out]; rfl, Ext.refl _⟩
  · have hv : Hid (cipN (A0 ls) = A0 ls &&& 11) := if_neg (fun e => h (Hd.out.symm.trans e))
    go_enter Tryd.func37, Tryd.ntmps37
    go_wp2
    go_ret
    exact ⟨by rw [hv.out]; rfl, Ext.refl _⟩
theorem k29_any (hs : SetSl w A 2 ls) (h16 : ∀ x ∈ ls, x < 16) :
    Calls Tryd.prog 38 #[.slice A 2 c] w fun e w' => e = .returned (.int .u8 ((jourN ls : Nat) : Int)) ∧ Ext w w' := by
  obtain ⟨g, off, rfl, ha, k0⟩ := first_cell hs (by omega) h16
  obtain ⟨g', off', hgo, hg, hce⟩ := hs.2 (by omega)
  injection hgo with hgo
  injection hgo with hg1 hg2
  subst hg1 hg2
  have hl : 1 < ls.length := by have := hs.1; omega
  have h1 : ls[1]? = some (A1 ls) := by
    match ls, hl with
    | x :: y :: l, _ => rfl
  have k1 : ∀ wx, Ext w wx → wx.cell? ⟨g, off + 1, none⟩ = some (.int .u8 (A1 ls : Int)) := fun wx h => h.cell_some (hce 1 _ h1)
  have ha1 : A1 ls < 16 := h16 _ (List.mem_of_getElem? h1)
  have hb := bits_c (everyN_small h16) (m := 1) (by decide) 1 rfl
  have hb2 := bits_c ha1 (m := 2) (by decide) 2 rfl
  have hb4 := bits_c ha (m := 2) (by decide) 2 rfl
  have hb3 : bits BinOp.or IntKind.u8 9 ((A0 ls &&& 2 : Nat) : Int) = ((9 ||| (A0 ls &&& 2) : Nat) : Int) := bits_or16 (a := 9) (by decide) (and_le (A0 ls) 2 ha)
  have Hs := Lib.hid hs
  have H16 := Lib.hid h16
  clear hs h16 hce h1 hl
  obtain ⟨d, hd⟩ : ∃ d : Nat, everyN ls &&& 1 = d := ⟨_, rfl⟩
  obtain ⟨d2, hd2⟩ : ∃ d : Nat, A1 ls &&& 2 = d := ⟨_, rfl⟩
  rw [hd] at hb
  rw [hd2] at hb2
  have Hd := Lib.hid hd
  have Hd2 := Lib.hid hd2
  clear hd hd2
  by_cases h : d = 0
  · have hv : Hid (jourN ls = 0) := if_pos (Hd.out.trans h)
    go_enter Tryd.func38, Tryd.ntmps38
    go_wp2_with (go_at_call 33; refine (every_any _ 2 c ls w Hs.out (by omega) H16.out).mono ?_; rintro e w1 ⟨rfl, hx⟩; have d0 := k0 _ hx; have d1 := k1 _ hx)
    go_ret
    exact ⟨by rw [hv.out]; rfl, hx⟩
  · have q1 : ((d : Int) == 0) = false := beq_eq_false_iff_ne.2 (by omega)
    by_cases h2 : d2 = 0
    · have hv : Hid (jourN ls = 0) := by show _ = _; unfold jourN; rw [if_neg (fun e => h (Hd.out.symm.trans e)), if_pos (Hd2.out.trans h2)]
      go_enter Tryd.func38, Tryd.ntmps38
      go_wp2_with (go_at_call 33; refine (every_any _ 2 c ls w Hs.out (by omega) H16.out).mono ?_; rintro e w1 ⟨rfl, hx⟩; have d0 := k0 _ hx; have d1 := k1 _ hx)
      go_ret
      exact ⟨by rw [hv.out]; rfl, hx⟩
    · have q2 : ((d2 : Int) == 0) = false := beq_eq_false_iff_ne.2 (by omega)
      have hv : Hid (jourN ls = 9 ||| (A0 ls &&& 2)) := by show _ = _; unfold jourN; rw [if_neg (fun e => h (Hd.out.symm.trans e)), if_neg (fun e => h2 (Hd2.out.symm.trans e))]
      go_enter Tryd.func38, Tryd.ntmps38
      go_wp2_with (go_at_call 33; refine (every_any _ 2 c ls w Hs.out (by omega) H16.out).mono ?_; rintro e w1 ⟨rfl, hx⟩; have d0 := k0 _ hx; have d1 := k1 _ hx)
      go_ret
      exact ⟨by rw [hv.out]; rfl, hx⟩
end
end Go.Proofs.YtbicaejpckcfbaaDoor
