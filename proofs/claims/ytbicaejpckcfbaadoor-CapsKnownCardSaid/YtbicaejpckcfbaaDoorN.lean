/- The program's Parse of every text that is not too great. -/
import Derived.Test.YtbicaejpckcfbaaDoorK
namespace Go.Proofs.YtbicaejpckcfbaaDoor
open Go.RowKit

def FaultAt (w : World) (b : Nat) (pos : Nat) (wd : ByteArray) : Prop := w.heap[b]? = some (.cells #[.int .i64 2, .int .i64 (pos : Int), .string wd] 35 (0, 0))
def ParsePost (s : ByteArray) (w : World) (e : Ending) (w' : World) : Prop :=
  Ext w w' ∧ (((parseN s).2 = none ∧ e = .returned (.tuple #[.int .u8 ((parseN s).1 : Int), .nilIface])) ∨
    ∃ pos wd b, parseN s = (0, some (pos, wd)) ∧ e = .returned (.tuple #[.int .u8 0, .iface 53 (.pointer (some ⟨b, 0, none⟩))]) ∧ w.heap.size ≤ b ∧ FaultAt w' b pos wd)
theorem ParsePost.good {s : ByteArray} {w w' : World} {a : Nat} (h : parseN s = (a, none)) (hx : Ext w w') : ParsePost s w (.returned (.tuple #[.int .u8 (a : Int), .nilIface])) w' :=
  ⟨hx, .inl ⟨by rw [h], by rw [h]⟩⟩
theorem ParsePost.bad {s : ByteArray} {w w' : World} {pos b : Nat} {wd : ByteArray} (h : parseN s = (0, some (pos, wd))) (hx : Ext w w') (hb : w.heap.size ≤ b) (hf : FaultAt w' b pos wd) :
    ParsePost s w (.returned (.tuple #[.int .u8 0, .iface 53 (.pointer (some ⟨b, 0, none⟩))])) w' :=
  ⟨hx, .inr ⟨pos, wd, b, h, rfl, hb, hf⟩⟩

theorem list_ne {a b : ByteArray} (h : a ≠ b) : (a.toList == b.toList) = false := by
  rw [beq_eq_false_iff_ne]
  intro e
  rw [Lib.toList_data, Lib.toList_data] at e
  exact h ((mkB_data a).symm.trans ((congrArg mkB e).trans (mkB_data b)))
theorem read_ne {s : ByteArray} (h : s ≠ readB) : (s.toList == [114, 101, 97, 100]) = false := by
  have := list_ne h
  have e : readB.toList = [114, 101, 97, 100] := by rw [Lib.toList_data]; rfl
  rwa [e] at this
theorem length_weight (l : List ByteArray) : l.length ≤ weight l := by
  induction l with
  | nil => simp [weight]
  | cons a l ih => simp [weight] at ih ⊢; omega
theorem fnd_range (next : Nat) (w : ByteArray) (k : Nat) : -1 ≤ fnd next w k ∧ fnd next w k < (k : Int) := by
  rcases fnd_cases next w k with h | ⟨f, h, hf, -⟩ <;> rw [h] <;> omega
theorem or_small {a f : Nat} (ha : a < 16) (hf : f < 4) : (a ||| 2 ^ f) < 16 := by
  have h : ∀ a : Fin 16, ∀ f : Fin 4, (a.val ||| 2 ^ f.val) < 16 := by decide
  exact h ⟨a, ha⟩ ⟨f, hf⟩
theorem pow_small {f : Nat} (hf : f < 4) : 2 ^ f < 16 := by
  have h : ∀ f : Fin 4, 2 ^ f.val < 16 := by decide
  exact h ⟨f, hf⟩
theorem or_pow {a f : Nat} (ha : a < 16) (hf : f < 4) : bits BinOp.or IntKind.u8 (a : Int) (2 ^ f) = ((a ||| 2 ^ f : Nat) : Int) := by
  have h : ∀ a : Fin 16, ∀ f : Fin 4, bits BinOp.or IntKind.u8 (a.val : Int) (2 ^ f.val) = ((a.val ||| 2 ^ f.val : Nat) : Int) := by decide +kernel
  exact h ⟨a, ha⟩ ⟨f, hf⟩
theorem wrap_pow {f : Nat} (hf : f < 4) : IntKind.u8.wrap (2 ^ f : Int) = ((2 ^ f : Nat) : Int) := by
  have h : ∀ f : Fin 4, IntKind.u8.wrap (2 ^ f.val : Int) = ((2 ^ f.val : Nat) : Int) := by decide
  exact h ⟨f, hf⟩
/-- What holds ahead of piece k. -/
structure PI (ps : List ByteArray) (k can next pos : Nat) : Prop where
  eq : parseL 0 ps 0 0 0 = parseL k (ps.drop k) can next pos
  wt : pos + weight (ps.drop k) ≤ 1048577
theorem PI.start {ps : List ByteArray} (h : weight ps ≤ 1048577) : PI ps 0 0 0 0 := ⟨rfl, by simpa using h⟩
section
variable {ps : List ByteArray} {k can next pos : Nat} {p : ByteArray}
theorem PI.size (h : PI ps k can next pos) (hp : ps[k]? = some p) : pos ≤ 1048577 ∧ pos + p.size + 1 ≤ 1048577 := by
  have h1 := h.wt
  rw [weight_drop hp] at h1
  have : p.data.size = p.size := rfl
  omega
theorem drop_at (hp : ps[k]? = some p) : ps.drop k = p :: ps.drop (k + 1) := by
  obtain ⟨h1, h2⟩ := List.getElem?_eq_some_iff.1 hp
  rw [List.drop_eq_getElem_cons h1, h2]
theorem PI.read (h : PI ps 0 can next pos) (hp : ps[0]? = some readB) : PI ps 1 can 4 (pos + 5) := by
  refine ⟨?_, ?_⟩
  · rw [h.eq, drop_at hp]
    show parseL 0 (readB :: _) can next pos = _
    conv => lhs; unfold parseL
    rw [if_pos ⟨rfl, rfl⟩]
    rfl
  · have := h.wt
    rw [weight_drop hp] at this
    have e : readB.data.size = 4 := rfl
    simp only [Nat.zero_add] at this
    omega
theorem PI.fault (h : PI ps k can next pos) (hp : ps[k]? = some p) (hr : ¬ (k = 0 ∧ p = readB)) (hf : fnd next p 4 = -1) : parseL 0 ps 0 0 0 = (0, some (pos, p)) := by
  rw [h.eq, drop_at hp]
  unfold parseL
  rw [if_neg hr, if_pos (by rw [hf]; decide)]
theorem PI.good (h : PI ps k can next pos) (hp : ps[k]? = some p) (hr : ¬ (k = 0 ∧ p = readB)) {f : Nat} (hf : fnd next p 4 = f) : PI ps (k + 1) (can ||| 2 ^ f) (f + 1) (pos + (p.size + 1)) := by
  refine ⟨?_, ?_⟩
  · rw [h.eq, drop_at hp]
    conv => lhs; unfold parseL
    rw [if_neg hr, if_neg (by rw [hf]; omega), hf]
    rfl
  · have := h.wt
    rw [weight_drop hp] at this
    have e : p.data.size = p.size := rfl
    omega
theorem PI.done (h : PI ps k can next pos) (hk : ps.length ≤ k) : parseL 0 ps 0 0 0 = (can, none) := by
  rw [h.eq, List.drop_eq_nil_of_le hk]
  rfl
end

set_option maxRecDepth 20000 in
set_option maxHeartbeats 2000000 in
theorem parse_any (s : ByteArray) (m : Int) (w : World) (hs : s.size ≤ 1048576) (hm : w.cell? ⟨1, 0, none⟩ = some (.int .i64 m)) :
    Calls Tryd.prog 7 #[.string s] w (ParsePost s w) := by
  by_cases hr : s = readB
  · have hv : Hid (parseN s = (0, none)) := if_pos hr
    subst hr
    unfold readB
    go_enter Tryd.func7, Tryd.ntmps7
    go_wp2
    go_ret2
    exact ParsePost.good hv.out (Ext.refl _)
  have hv : Hid (parseN s = parseL 0 (pieces s) 0 0 0) := if_neg hr
  have hrl : (s.toList == [114, 101, 97, 100]) = false := read_ne hr
  obtain ⟨ps, hps⟩ : ∃ ps, pieces s = ps := ⟨_, rfl⟩
  have hsp := Tryd.strings_Split s ⟨#[32]⟩ m w (by omega) hm (by decide)
  have hlen := Lib.splitB_all ⟨#[32]⟩ (by decide) 0 _ s rfl
  rw [split_pieces, hps] at hsp hlen
  rw [← hlen] at hsp
  have hwt := weight_pieces s
  rw [hps] at hwt hv
  have Hsp := Lib.hid hsp
  have Hwt : Hid (True ∧ weight ps ≤ 1048577) := ⟨trivial, by rw [hwt]; have : s.data.size = s.size := rfl; omega⟩
  have Hlen : Hid (True ∧ ps.length ≤ 1048577) := ⟨trivial, Nat.le_trans (length_weight ps) Hwt.out.2⟩
  clear hsp hwt hlen hps hm
  have HK0 : Hid (∀ k p, ps[k]? = some p → ∀ wx, Ext (w.alloc (.cells (List.map Value.string ps).toArray 9)) wx → wx.cell? ⟨w.heap.size, k, none⟩ = some (.string p)) := Lib.hid (fun k p hp wx hx => by rw [hx.cell_new]; simp [hp])
  have HX0 : Hid (Ext w (w.alloc (.cells (List.map Value.string ps).toArray 9))) := (Ext.refl _).alloc _
  obtain ⟨w0, hw0⟩ : ∃ w0, w.alloc (.cells (List.map Value.string ps).toArray 9) = w0 := ⟨_, rfl⟩
  rw [hw0] at HK0 HX0
  have HW0 := Lib.hid hw0
  obtain ⟨nl, hnl⟩ : ∃ n, ps.length = n := ⟨_, rfl⟩
  have Hnl := Lib.hid hnl
  have hl := Hlen.out.2
  rw [hnl] at hl
  obtain ⟨WV, hW⟩ : ∃ v, v = wordsV := ⟨_, rfl⟩
  have xk := words_at
  rw [← hW] at xk
  have HW := Lib.hid hW
  clear hW hw0 hnl
  go_enter Tryd.func7, Tryd.ntmps7
  go_wp2_with (go_at_call 17; refine Hsp.out.mono ?_; rintro e w1 ⟨rfl, rfl⟩; rw [HW0.out, Hnl.out])
  go_loopw [4, 5, 6, 17] (fun cv nv av iv wr => ∃ k can next pos : Nat, k ≤ nl ∧ iv = .int .i64 (k : Int) ∧ cv = .int .u8 (can : Int) ∧ nv = .int .i64 (next : Int) ∧ av = .int .i64 (pos : Int) ∧ can < 16 ∧ next ≤ 4 ∧ PI ps k can next pos ∧ Ext w0 wr) (fun _ _ _ iv _ => nl - (intOf iv).toNat)
  case atStart => exact ⟨0, 0, 0, 0, Nat.zero_le _, rfl, rfl, rfl, rfl, by decide, by decide, PI.start Hwt.out.2, Ext.refl _⟩
  case round =>
    obtain ⟨k, can, next, pos, hk, rfl, rfl, rfl, rfl, hc16, hn4, hpi, hx⟩ := hrel
    have HPI := Lib.hid hpi
    have HX := Lib.hid hx
    clear hpi hx
    by_cases hlt : k < nl
    · obtain ⟨p, hp⟩ : ∃ p, ps[k]? = some p := ⟨_, List.getElem?_eq_getElem (by have := Hnl.out; omega)⟩
      have Hp := Lib.hid hp
      have c0 := HK0.out k p hp wr HX.out
      have hsz := HPI.out.size hp
      clear hp
      obtain ⟨hsz1, hsz2⟩ := hsz
      go_wp2_with (go_at_call 18; refine (words_any _).mono ?_; rintro e w2 ⟨rfl, hx2⟩; rw [← HW.out])
      have HX2 := Lib.hid hx2
      clear hx2
      go_loopw [9, 23] (fun fv jv wy => ∃ j : Nat, j ≤ 4 ∧ jv = .int .i64 (j : Int) ∧ fv = .int .i64 (fnd next p j) ∧ Ext w2 wy) (fun _ jv _ => 4 - (intOf jv).toNat)
      case atStart => exact ⟨0, Nat.zero_le _, rfl, rfl, Ext.refl _⟩
      case round =>
        obtain ⟨j, hj, rfl, rfl, hy⟩ := hrel
        have HY := Lib.hid hy
        clear hy
        have hfr := fnd_range next p j
        obtain ⟨fz, hfz⟩ : ∃ z, fnd next p j = z := ⟨_, rfl⟩
        rw [hfz] at hfr
        obtain ⟨hfr1, hfr2⟩ := hfr
        simp only [hfz]
        have Hfz := Lib.hid hfz
        clear hfz
        by_cases hj4 : j < 4
        · have xk0 := xk j hj4
          by_cases hw : wordB j = p
          · have hq : ((wordB j).toList == p.toList) = true := by rw [hw]; simp
            by_cases hnj : next ≤ j
            · have Hf2 : Hid (fnd next p (j + 1) = (j : Int)) := if_pos ⟨hw, hnj⟩
              clear hw
              go_wp2_with fail
              go_roundw
              case rel => exact ⟨j + 1, by omega, by go_num, by rw [Hf2.out], HY.out⟩
              case measure => simp [intOf]; omega
            · have Hf2 : Hid (fnd next p (j + 1) = fz) := Lib.hid ((if_neg (fun e => hnj e.2)).trans Hfz.out)
              clear hw
              go_wp2_with fail
              go_roundw
              case rel => exact ⟨j + 1, by omega, by go_num, by rw [Hf2.out], HY.out⟩
              case measure => simp [intOf]; omega
          · have hq : ((wordB j).toList == p.toList) = false := list_ne hw
            have Hf2 : Hid (fnd next p (j + 1) = fz) := Lib.hid ((if_neg (fun e => hw e.1)).trans Hfz.out)
            clear hw
            go_wp2_with fail
            go_roundw
            case rel => exact ⟨j + 1, by omega, by go_num, by rw [Hf2.out], HY.out⟩
            case measure => simp [intOf]; omega
        · obtain rfl : j = 4 := by omega
          have hb : True ∧ pos + p.size + 1 ≤ 1048577 := ⟨trivial, hsz2⟩
          by_cases hrd : k = 0 ∧ p = readB
          · obtain ⟨rfl, rfl⟩ := hrd
            have HP2 := Lib.hid (HPI.out.read Hp.out)
            unfold readB
            go_wp2_with (go_at_call 18; refine (words_any _).mono ?_; rintro e w3 ⟨rfl, hx3⟩; rw [← HW.out])
            go_roundw
            case rel => exact ⟨1, can, 4, pos + 5, by omega, by go_num, rfl, rfl, by go_num, hc16, by decide, HP2.out, HX.out.trans (HX2.out.trans (HY.out.trans hx3))⟩
            case measure => simp [intOf]; omega
          have hnr : k = 0 → (p.toList == [114, 101, 97, 100]) = false := fun h => read_ne (fun e => hrd ⟨h, e⟩)
          have Hrd := Lib.hid hrd
          clear hrd
          have hz : (k = 0 ∧ (p.toList == [114, 101, 97, 100]) = false) ∨ 0 < k := by
            rcases Nat.eq_zero_or_pos k with h | h
            · exact .inl ⟨h, hnr h⟩
            · exact .inr h
          clear hnr
          rcases fnd_cases next p 4 with hf | ⟨f, hf, hf4, hnf, -⟩
          · obtain rfl : fz = -1 := Hfz.out.symm.trans hf
            have HB := Lib.hid (HPI.out.fault Hp.out Hrd.out hf)
            rcases hz with ⟨rfl, hpr⟩ | hk0
            · go_wp2_with fail
              go_ret2
              exact ParsePost.bad (hv.out.trans HB.out) (HX0.out.trans (HX.out.trans (HX2.out.trans (HY.out.alloc _)))) (Nat.le_trans HX0.out.size (HX.out.trans (HX2.out.trans HY.out)).size) (heap_alloc_new _ _)
            · go_wp2_with fail
              go_ret2
              exact ParsePost.bad (hv.out.trans HB.out) (HX0.out.trans (HX.out.trans (HX2.out.trans (HY.out.alloc _)))) (Nat.le_trans HX0.out.size (HX.out.trans (HX2.out.trans HY.out)).size) (heap_alloc_new _ _)
          · obtain rfl : fz = (f : Int) := Hfz.out.symm.trans hf
            have HG := Lib.hid (HPI.out.good Hp.out Hrd.out hf)
            have hor := or_small hc16 hf4
            have hbit := or_pow hc16 hf4
            have hwr := wrap_pow hf4
            rcases hz with ⟨rfl, hpr⟩ | hk0
            · go_wp2_with fail
              go_roundw
              case rel => exact ⟨1, can ||| 2 ^ f, f + 1, pos + (p.size + 1), by omega, by go_num, by first | rfl | (rw [hbit]), by go_num, by go_num, hor, by omega, HG.out, HX.out.trans (HX2.out.trans HY.out)⟩
              case measure => simp [intOf]; omega
            · go_wp2_with fail
              go_roundw
              case rel => exact ⟨k + 1, can ||| 2 ^ f, f + 1, pos + (p.size + 1), by omega, by go_num, by first | rfl | (rw [hbit]), by go_num, by go_num, hor, by omega, HG.out, HX.out.trans (HX2.out.trans HY.out)⟩
              case measure => simp [intOf]; omega
    · have hke : k = nl := by omega
      have HE := Lib.hid (HPI.out.done (by have := Hnl.out; omega))
      clear hke
      go_wp2_with fail
      go_ret2
      exact ParsePost.good (hv.out.trans HE.out) (HX0.out.trans HX.out)
end Go.Proofs.YtbicaejpckcfbaaDoor
