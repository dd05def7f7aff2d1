/- How the laws' arguments read: a slice of bytes, of two-byte numbers, of items; what their reading weighs. -/
import Derived.Test.YtcpnnkkfndgpjaaDoorGB
import Derived.Test.YtcpnnkkfndgpjaaDoorCards
import Derived.Test.YtcpnnkkfndgpjaaDoorTie
import Derived.ProofKit
import Derived.OpenShut
import Derived.ShutString
import Derived.ChangeOld
import Derived.Below
import Derived.SizedLaws
import Derived.ChangeSlices
import Derived.Lib.SmallJoins
import Derived.Deep.DeepHandedRow
import Derived.Deep.Slices
import Derived.Deep.Strs
import Derived.LaidMore
import Derived.Lay
import Derived.Stop.Joined
import Derived.HandedShaped
import Derived.Shelf.Vars
import Derived.ChangeMaps5
namespace Go.Proofs.YtcpnnkkfndgpjaaDoor
open Go.ChangeShapes Go.WideShapes Go.ChangeAt Go.RowKit Go.Joins Go.ChangeMaps Go.Deep

theorem bulk_pos {H : Type} (d : DataW H) : 1 ≤ Rows.uptoBulk d := by
  cases d <;> first | (simp [Rows.uptoBulk]; done) | (rename_i l; cases l <;> simp [Rows.uptoBulk])
theorem bulk_len {H : Type} : ∀ l : List (DataW H), l.length ≤ Rows.uptoBulkAll l
  | [] => by simp
  | d :: l => by
    have h1 := bulk_pos d
    have h2 := bulk_len l
    simp only [Rows.uptoBulkAll, List.length_cons]
    omega
theorem bulk_sum {H : Type} {α : Type} (f : α → DataW H) (g : α → Nat) (h : ∀ a, g a ≤ Rows.uptoBulk (f a)) : ∀ l : List α, (l.map g).sum ≤ Rows.uptoBulkAll (l.map f)
  | [] => by simp [Rows.uptoBulkAll]
  | a :: l => by
    have h1 := h a
    have h2 := bulk_sum f g h l
    simp only [List.map_cons, List.sum_cons, Rows.uptoBulkAll]
    omega
section
variable {H : Type} {enc : TypeId × Value → H} {w : World} {base : Nat} {spare : Nat → Bool} {held : Bool}
theorem no_spot {a : Addr} {v : Value} (h : w.cell? (a.add 0) = some v) : a.spot = none := by
  have := World.cell?_spot h
  simpa [Addr.add] using this
theorem open_bytes {fuel : Nat} {cs : List Value} {x : DataW H × List MemPlace} (h : DataW.trod enc Tryd.prog w base spare held fuel 26 cs = some x) :
    ∃ A n c l, cs = [.slice A n c] ∧ n ≤ c ∧ BySl w A n l ∧ n ≤ Rows.uptoBulk x.1 := by
  rcases Go.ChangeShapes.open_ints Tryd.underlying26 Tryd.underlying5 (by kernel_rfl) h with ⟨rfl, rfl⟩ | ⟨a, len, cap, zs, rfl, hb, hl, hm, hz, rfl, hc, hwf⟩
  · exact ⟨none, 0, 0, [], rfl, Nat.le_refl _, BySl.nil _ _, Nat.zero_le _⟩
  · have hle : len ≤ zs.length := by rw [hz]; split <;> omega
    refine ⟨some a, len, cap, (zs.take len).map (fun z => UInt8.ofNat z.toNat), rfl, hl, ⟨by simp; omega, fun hn => ?_⟩, ?_⟩
    · have h0 := hc 0 (by omega)
      have hspot := no_spot h0
      obtain ⟨b, off, sp⟩ := a
      simp only at hspot
      subst hspot
      refine ⟨b, off, rfl, ?_, fun k y hk => ?_⟩
      · have := World.block_lt_of_cell? w _ h0
        simpa [add_off] using this
      · have hkl : k < len := by
          have := (List.getElem?_eq_some_iff.1 hk).1
          simp at this; omega
        have hck := hc k (by omega)
        rw [add_off] at hck
        rw [hck]
        have hkz : k < zs.length := by omega
        have e : zs.getD k 0 = zs[k] := by simp [List.getD, hkz]
        have hy : y = UInt8.ofNat (zs[k]).toNat := by
          rw [List.getElem?_map, List.getElem?_take_of_lt hkl, List.getElem?_eq_getElem hkz] at hk
          simpa using hk.symm
        have hw := hwf _ (List.getElem_mem hkz)
        simp only [Lit.wf, Bool.and_eq_true, decide_eq_true_eq] at hw
        have h1 : (0 : Int) ≤ zs[k] := hw.1
        have h2 : zs[k] ≤ 255 := hw.2
        rw [e, hy, UInt8.toNat_ofNat']
        congr 2
        omega
    · have h1 := bulk_len (lits (H := H) IntKind.u8 (zs.take len))
      have h2 : (lits (H := H) IntKind.u8 (zs.take len)).length = len := by simp [lits]; omega
      simp only [Rows.uptoBulk]
      omega
theorem open_u16s {fuel : Nat} {cs : List Value} {x : DataW H × List MemPlace} (h : DataW.trod enc Tryd.prog w base spare held fuel 32 cs = some x) :
    ∃ A n c l, cs = [.slice A n c] ∧ U16Sl w A n l ∧ n ≤ Rows.uptoBulk x.1 := by
  rcases Go.ChangeShapes.open_ints Tryd.underlying32 Tryd.underlying47 (by kernel_rfl) h with ⟨rfl, rfl⟩ | ⟨a, len, cap, zs, rfl, hb, hl, hm, hz, rfl, hc, hwf⟩
  · exact ⟨none, 0, 0, [], rfl, U16Sl.nil _, Nat.zero_le _⟩
  · have hle : len ≤ zs.length := by rw [hz]; split <;> omega
    refine ⟨some a, len, cap, (zs.take len).map Int.toNat, rfl, ⟨by simp; omega, fun hn => ?_⟩, ?_⟩
    · have h0 := hc 0 (by omega)
      have hspot := no_spot h0
      obtain ⟨b, off, sp⟩ := a
      simp only at hspot
      subst hspot
      refine ⟨b, off, rfl, ?_, fun k y hk => ?_⟩
      · have := World.block_lt_of_cell? w _ h0
        simpa [add_off] using this
      · have hkl : k < len := by
          have := (List.getElem?_eq_some_iff.1 hk).1
          simp at this; omega
        have hck := hc k (by omega)
        rw [add_off] at hck
        rw [hck]
        have hkz : k < zs.length := by omega
        have e : zs.getD k 0 = zs[k] := by simp [List.getD, hkz]
        have hy : y = (zs[k]).toNat := by
          rw [List.getElem?_map, List.getElem?_take_of_lt hkl, List.getElem?_eq_getElem hkz] at hk
          simpa using hk.symm
        have hw := hwf _ (List.getElem_mem hkz)
        simp only [Lit.wf, Bool.and_eq_true, decide_eq_true_eq] at hw
        have h1 : (0 : Int) ≤ zs[k] := hw.1
        have h2 : zs[k] ≤ 65535 := hw.2
        rw [e, hy]
        refine ⟨?_, by omega⟩
        congr 2
        omega
    · have h1 := bulk_len (lits (H := H) IntKind.u16 (zs.take len))
      have h2 : (lits (H := H) IntKind.u16 (zs.take len)).length = len := by simp [lits]; omega
      simp only [Rows.uptoBulk]
      omega
theorem three {α : Type} {l : List α} (h : l.length = 3) : ∃ a b c, l = [a, b, c] := by
  match l, h with
  | [a, b, c], _ => exact ⟨a, b, c, rfl⟩
theorem open_item {fuel : Nat} {cs : List Value} {x : DataW H × List MemPlace} (h : DataW.trod enc Tryd.prog w base spare held fuel 50 cs = some x) :
    ∃ (y : It) (D : Option Addr) (dc : Nat), cs = [.string (mkB y.path), .int .i8 y.kind, .slice D y.data.length dc] ∧ BySl w D y.data.length y.data ∧ -128 ≤ y.kind ∧ y.kind ≤ 127 ∧ szI y + 1 ≤ Rows.uptoBulk x.1 := by
  obtain ⟨y0, y1, y2, n, hx, hlen, h0, h1, h2⟩ := trod_struct3 Tryd.underlying50 h
  have hC : Tryd.prog.cellsOf 50 = 3 := by kernel_rfl
  have c0 : Tryd.prog.cellsOf 9 = 1 := by kernel_rfl
  have c1 : Tryd.prog.cellsOf 48 = 1 := by kernel_rfl
  have c2 : Tryd.prog.cellsOf 26 = 1 := by kernel_rfl
  rw [hC] at hlen
  obtain ⟨a, b, c, rfl⟩ := three hlen
  simp only [c0, c1, c2, List.drop_zero, List.drop_succ_cons, List.take_succ_cons, List.take_zero] at h0 h1 h2
  obtain ⟨s, e0, g0, -⟩ := DataW.trod_string Tryd.underlying9 h0
  obtain ⟨k, e1, g1, w1⟩ := DataW.trod_int Tryd.underlying48 h1
  obtain ⟨D, nd, dc, l, e2, -, hby, hbk⟩ := open_bytes h2
  simp only [List.cons.injEq, and_true] at e0 e1 e2
  subst e0 e1 e2
  simp only [Lit.wf, Bool.and_eq_true, decide_eq_true_eq] at w1
  have hl := hby.1
  subst hl
  refine ⟨⟨s.data.toList, k, l⟩, D, dc, rfl, hby, w1.1, w1.2, ?_⟩
  rw [hx, g0, g1]
  simp only [Rows.uptoBulk, Rows.uptoBulkAll, szI]
  omega
theorem open_items {fuel : Nat} {cs : List Value} {x : DataW H × List MemPlace} (h : DataW.trod enc Tryd.prog w base spare held fuel 22 cs = some x) :
    ∃ A n c ls, cs = [.slice A n c] ∧ n ≤ c ∧ ItSl w A n ls ∧ (∀ y ∈ ls, -128 ≤ y.kind ∧ y.kind ≤ 127) ∧ szN ls + n ≤ Rows.uptoBulk x.1 := by
  rcases open_slice Tryd.underlying22 h with ⟨rfl, rfl⟩ | ⟨a, len, cap, m, n, D, Pl, rfl, _, hl, hm, hmm, rfl, hi⟩
  · exact ⟨none, 0, 0, [], rfl, Nat.le_refl _, ⟨rfl, fun h => absurd h (by omega)⟩, fun y hy => by simp at hy, by simp [szN]⟩
  · have hC : Tryd.prog.cellsOf 50 = 3 := by kernel_rfl
    simp only [hC] at hi
    have hlm : len ≤ m := by rw [hmm]; split <;> omega
    have key : ∀ i, i < len → ∃ y : It, (-128 ≤ y.kind ∧ y.kind ≤ 127) ∧ szI y + 1 ≤ Rows.uptoBulk (D i) ∧ ∃ E dc, BySl w E y.data.length y.data ∧ ∀ j u, ([Value.string (mkB y.path), .int .i8 y.kind, .slice E y.data.length dc] : List Value)[j]? = some u → w.cell? ((a.add (i * 3)).add j) = some u := by
      intro i hil
      obtain ⟨cs', hc, ht⟩ := hi i (by omega)
      obtain ⟨y, E, dc, rfl, hby, hk1, hk2, hbk⟩ := open_item ht
      obtain ⟨_, _, hcell⟩ := World.cells?_some hc
      refine ⟨y, ⟨hk1, hk2⟩, hbk, E, dc, hby, fun j u hu => ?_⟩
      have hj : j < 3 := by
        have := (List.getElem?_eq_some_iff.1 hu).1
        simpa using this
      rw [hcell j hj, hu]
    refine ⟨some a, len, cap, (List.range len).map (fun i => if h : i < len then Classical.choose (key i h) else ⟨[], 0, []⟩), rfl, hl, ⟨by simp, fun hn => ?_⟩, fun y hy => ?_, ?_⟩
    · obtain ⟨y0, -, -, E0, dc0, -, h0⟩ := key 0 hn
      have hs := h0 0 _ rfl
      have hspot : a.spot = none := by
        have := World.cell?_spot hs
        simpa [Addr.add] using this
      obtain ⟨b, off, sp⟩ := a
      simp only at hspot
      subst hspot
      refine ⟨b, off, rfl, ?_, fun k y hk => ?_⟩
      · have := World.block_lt_of_cell? w _ hs
        simpa [add_off] using this
      · have hkl : k < len := by
          have := (List.getElem?_eq_some_iff.1 hk).1
          simpa using this
        rw [List.getElem?_map, List.getElem?_range hkl, Option.map_some, dif_pos hkl] at hk
        injection hk with hk
        obtain ⟨-, -, E, dc, hby, hc⟩ := Classical.choose_spec (key k hkl)
        rw [hk] at hc hby
        simp only [add_off] at hc
        exact ⟨hc 0 _ rfl, hc 1 _ rfl, E, dc, hc 2 _ rfl, hby⟩
    · obtain ⟨k, hk, rfl⟩ := List.mem_map.1 hy
      have hkl := List.mem_range.1 hk
      simp only [hkl, dite_true]
      exact (Classical.choose_spec (key k hkl)).1
    · have h1 := bulk_sum D (fun i => if h : i < len then szI (Classical.choose (key i h)) + 1 else 0) (fun i => by
        by_cases hil : i < len
        · rw [dif_pos hil]; exact (Classical.choose_spec (key i hil)).2.1
        · rw [dif_neg hil]; exact Nat.zero_le _) (List.range len)
      have h2 : szN ((List.range len).map (fun i => if h : i < len then Classical.choose (key i h) else ⟨[], 0, []⟩)) + len = ((List.range len).map (fun i => if h : i < len then szI (Classical.choose (key i h)) + 1 else 0)).sum := by
        have gen : ∀ l : List Nat, (∀ i ∈ l, i < len) → szN (l.map (fun i => if h : i < len then Classical.choose (key i h) else ⟨[], 0, []⟩)) + l.length = (l.map (fun i => if h : i < len then szI (Classical.choose (key i h)) + 1 else 0)).sum := by
          intro l
          induction l with
          | nil => intro _; simp [szN]
          | cons i l ih =>
            intro hall
            have ih := ih (fun j hj => hall j (List.mem_cons_of_mem _ hj))
            have hi' := hall i (List.mem_cons_self ..)
            simp only [List.map_cons, List.sum_cons, List.length_cons, szN, dif_pos hi'] at ih ⊢
            omega
        have := gen (List.range len) (fun i hi => List.mem_range.1 hi)
        simpa using this
      simp only [Rows.uptoBulk]
      omega
end
end Go.Proofs.YtcpnnkkfndgpjaaDoor
