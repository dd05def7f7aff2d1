/- The document's Parse. -/
import Derived.Test.YtbicaejpckcfbaaDoorAC
namespace Go.Proofs.YtbicaejpckcfbaaDoor
open Go.RowKit

/-- What stands ahead of the letter k, where the word began at f. -/
def DI (s : ByteArray) (R : Nat × Option (Nat × ByteArray)) (k f can next : Nat) (rd : Bool) : Prop :=
  (k ≤ s.size ∧ f ≤ k ∧ NoBlank s.data.toList f k ∧ parseL (if f = 0 then 0 else 1) (piecesF (s.data.toList.drop f)) can (if rd = true then 4 else next) f = R) ∨ (k = s.size + 1 ∧ (can, none) = R)
theorem DI.word {s : ByteArray} {R : Nat × Option (Nat × ByteArray)} {k f can next : Nat} {rd : Bool} (hk : k ≤ s.size) (hf : f ≤ k) (hn : NoBlank s.data.toList f k) (he : parseL (if f = 0 then 0 else 1) (piecesF (s.data.toList.drop f)) can (if rd = true then 4 else next) f = R) (hb : s.data.toList[k]? = some 32 ∨ k = s.size) :
    ∃ rest, parseL (if f = 0 then 0 else 1) (mkB ((s.data.toList.drop f).take (k - f)) :: rest) can (if rd = true then 4 else next) f = R ∧ ∀ can' next' rd', parseL 1 rest can' (if rd' = true then 4 else next') (k + 1) = R → DI s R (k + 1) (k + 1) can' next' rd' := by
  rcases hb with hb | hb
  · have hlt : k < s.size := by
      have := (List.getElem?_eq_some_iff.1 hb).1
      rwa [size_data] at this
    rw [pieces_at hn hf hb] at he
    exact ⟨_, he, fun can' next' rd' h => .inl ⟨by omega, Nat.le_refl _, NoBlank.nil _ _, by rw [if_neg (by omega)]; exact h⟩⟩
  · subst hb
    rw [pieces_end (by rw [size_data]; exact hn), size_data] at he
    exact ⟨[], he, fun can' next' rd' h => .inr ⟨rfl, h⟩⟩
theorem parse_read {n f can nx : Nat} {p : ByteArray} {rest : List ByteArray} (hn : n = 0) (hp : p = readB) : parseL n (p :: rest) can nx f = parseL 1 rest can 4 (f + (p.data.size + 1)) := by
  show (if n = 0 ∧ p = readB then _ else _) = _
  rw [if_pos ⟨hn, hp⟩, hn]
theorem parse_bad {n f can nx : Nat} {p : ByteArray} {rest : List ByteArray} (hn : ¬ (n = 0 ∧ p = readB)) (hf : fnd nx p 4 < 0) : parseL n (p :: rest) can nx f = (0, some (f, p)) := by
  show (if n = 0 ∧ p = readB then _ else if fnd nx p 4 < 0 then _ else _) = _
  rw [if_neg hn, if_pos hf]
theorem parse_good {n f can nx g : Nat} {p : ByteArray} {rest : List ByteArray} (hn : ¬ (n = 0 ∧ p = readB)) (hg : fnd nx p 4 = (g : Int)) : parseL n (p :: rest) can nx f = parseL 1 rest (can ||| 2 ^ g) (g + 1) (f + (p.data.size + 1)) := by
  have h : parseL n (p :: rest) can nx f = (if n = 0 ∧ p = readB then parseL (n + 1) rest can 4 (f + (p.data.size + 1)) else if fnd nx p 4 < 0 then (0, some (f, p)) else parseL (n + 1) rest (can ||| 2 ^ (fnd nx p 4).toNat) ((fnd nx p 4).toNat + 1) (f + (p.data.size + 1))) := rfl
  rw [h, if_neg hn, hg, if_neg (by omega), Int.toNat_natCast]
  exact parse_later rest _ _ _ _ _ (by omega) (by omega)
theorem parse_all (s : ByteArray) : parseN s = parseL 0 (pieces s) 0 0 0 := by
  unfold parseN
  by_cases h : s = readB
  · rw [if_pos h]
    subst h
    have e : pieces readB = [readB] := by
      have h1 : cutS readB.data.toList = [[114, 101, 97, 100]] := by decide
      unfold pieces
      rw [h1]
      rfl
    rw [e, parse_read rfl rfl]
    rfl
  · rw [if_neg h]
def faultV : Option (Nat × ByteArray) → Value
  | none => .agg #[.int .i64 0, .int .i64 0, .string ⟨#[]⟩]
  | some (pos, wd) => .agg #[.int .i64 2, .int .i64 (pos : Int), .string wd]
def RPost (R : Nat × Option (Nat × ByteArray)) (w : World) (e : Ending) (w' : World) : Prop := e = .returned (.tuple #[.int .u8 (R.1 : Int), faultV R.2]) ∧ Ext w w'
theorem RPost.bad {R : Nat × Option (Nat × ByteArray)} {f : Nat} {p : ByteArray} {w w' : World} (h : (0, some (f, p)) = R) (hx : Ext w w') : RPost R w (.returned (.tuple #[.int .u8 0, .agg #[.int .i64 2, .int .i64 (f : Int), .string p]])) w' := by subst h; exact ⟨rfl, hx⟩
theorem RPost.good {R : Nat × Option (Nat × ByteArray)} {can : Nat} {w w' : World} (h : (can, none) = R) (hx : Ext w w') : RPost R w (.returned (.tuple #[.int .u8 (can : Int), .agg #[.int .i64 0, .int .i64 0, .string ⟨#[]⟩]])) w' := by subst h; exact ⟨rfl, hx⟩
/-- The result's three cells are set. -/
theorem row_set {w : World} {b : Nat} {cs : Array Value} (h : w.heap[b]? = some (.cells cs 35 (0, 0))) (hc : cs.size = 3) (u0 u1 u2 : Value) {w0 : World} (hx : Ext w0 w) (hb : w0.heap.size ≤ b) :
    Ext w0 (((w.setCell ⟨b, 0, none⟩ u0).setCell ⟨b, 1, none⟩ u1).setCell ⟨b, 2, none⟩ u2) ∧ (((w.setCell ⟨b, 0, none⟩ u0).setCell ⟨b, 1, none⟩ u1).setCell ⟨b, 2, none⟩ u2).cell? ⟨b, 0, none⟩ = some u0 ∧
    (((w.setCell ⟨b, 0, none⟩ u0).setCell ⟨b, 1, none⟩ u1).setCell ⟨b, 2, none⟩ u2).cell? ⟨b, 1, none⟩ = some u1 ∧ (((w.setCell ⟨b, 0, none⟩ u0).setCell ⟨b, 1, none⟩ u1).setCell ⟨b, 2, none⟩ u2).cell? ⟨b, 2, none⟩ = some u2 := by
  have hF := heap_setCell_at (i := 2) (heap_setCell_at (i := 1) (heap_setCell_at (i := 0) h u0) u1) u2
  have hcc := fun i => cell_of_row _ _ i _ 35 (0, 0) hF
  refine ⟨((hx.setCell _ _ hb).setCell _ _ hb).setCell _ _ hb, ?_, ?_, ?_⟩
  · rw [hcc 0]; simp [hc]
  · rw [hcc 1]; simp [hc]
  · rw [hcc 2]; simp [hc]
set_option maxRecDepth 20000 in
set_option maxHeartbeats 4000000 in
theorem rparse_any (s : ByteArray) (w : World) (hs : s.size ≤ 1048576) : Calls Tryd.prog 12 #[.string s] w (RPost (parseN s) w) := by
  obtain ⟨R, hR⟩ : ∃ R, parseN s = R := ⟨_, rfl⟩
  rw [hR]
  have HR0 : Hid (DI s R 0 0 0 0 false) := Lib.hid (.inl ⟨Nat.zero_le _, Nat.le_refl _, NoBlank.nil _ _, by rw [if_pos rfl, List.drop_zero, ← hR, parse_all]; rfl⟩)
  clear hR
  go_enter Tryd.func12, Tryd.ntmps12
  go_wp2_with fail
  have HX0 : Hid (Ext w (w.alloc (.cells #[.int .i64 0, .int .i64 0, .string ⟨#[]⟩] 35))) := Lib.hid ((Ext.refl _).alloc _)
  have HZ0 : Hid ((w.alloc (.cells #[.int .i64 0, .int .i64 0, .string ⟨#[]⟩] 35)).heap[w.heap.size]? = some (.cells #[.int .i64 0, .int .i64 0, .string ⟨#[]⟩] 35 (0, 0))) := Lib.hid (heap_alloc_new w _)
  obtain ⟨w0, hw0⟩ : ∃ W, w.alloc (.cells #[.int .i64 0, .int .i64 0, .string ⟨#[]⟩] 35) = W := ⟨_, rfl⟩
  have hs0 : w.heap.size < w0.heap.size := by rw [← hw0]; simp
  rw [hw0] at HX0 HZ0 ⊢
  clear hw0
  go_loopw [4, 5, 6, 7, 8] (fun cv nv rv fv iv wr => ∃ (k f can next : Nat) (rd : Bool), k ≤ s.size + 1 ∧ iv = .int .i64 (k : Int) ∧ fv = .int .i64 (f : Int) ∧ cv = .int .u8 (can : Int) ∧ nv = .int .i64 (next : Int) ∧ rv = .bool rd ∧ can < 16 ∧ next ≤ 4 ∧ DI s R k f can next rd ∧ Ext w0 wr) (fun _ _ _ _ iv _ => s.size + 1 - (intOf iv).toNat)
  case atStart => exact ⟨0, 0, 0, 0, false, Nat.zero_le _, rfl, rfl, rfl, rfl, rfl, by decide, by decide, HR0.out, Ext.refl _⟩
  case round =>
    obtain ⟨k, f, can, next, rd, hk, rfl, rfl, rfl, rfl, rfl, hc16, hn4, hdi, hx⟩ := hrel
    have HX := Lib.hid hx
    clear hx
    rcases hdi with ⟨hks, hfk, hnb, hpl⟩ | ⟨rfl, he⟩
    · have hks' : (k : Int) ≤ (s.size : Int) := by omega
      have hcut := cut_str (s := s) hfk hks
      have Hnb := Lib.hid hnb
      have Hpl := Lib.hid hpl
      clear hnb hpl
      by_cases hw : k < s.size ∧ s.data.toList[k]? ≠ some 32
      · obtain ⟨b, hb⟩ : ∃ c, s.data.toList[k]? = some c := ⟨_, List.getElem?_eq_getElem (by rw [size_data]; exact hw.1)⟩
        have hb4 : b ≠ 32 := fun e => hw.2 (by rw [hb, e])
        have hix := idx_str hb
        have b4 := ne32 hb4
        have HD2 : Hid (DI s R (k + 1) f can next rd) := Lib.hid (.inl ⟨by omega, by omega, Hnb.out.snoc hfk hb hb4, Hpl.out⟩)
        have hlt := hw.1
        clear hw hb hb4 hcut
        go_wp2_with fail
        go_roundw
        case rel => exact ⟨k + 1, f, can, next, rd, by omega, by go_num, rfl, rfl, rfl, rfl, hc16, hn4, HD2.out, HX.out⟩
        case measure => simp [intOf]; omega
      · have hb : s.data.toList[k]? = some 32 ∨ k = s.size := by
          rcases Nat.lt_or_ge k s.size with h | h
          · exact .inl (Classical.byContradiction fun hne => hw ⟨h, hne⟩)
          · exact .inr (by omega)
        obtain ⟨rest, hst, hnx⟩ := DI.word hks hfk Hnb.out Hpl.out hb
        obtain ⟨p, hp⟩ : ∃ p, mkB ((s.data.toList.drop f).take (k - f)) = p := ⟨_, rfl⟩
        rw [hp] at hcut hst
        have hpos : f + (p.data.size + 1) = k + 1 := by
          have h1 : p.data.size = k - f := by rw [← hp]; show ((s.data.toList.drop f).take (k - f)).toArray.size = _; simp; have := size_data s; simp at this; omega
          omega
        have Hst := Lib.hid hst
        have Hnx := Lib.hid hnx
        have Hpos := Lib.hid hpos
        clear hw hp hst hnx hpos Hnb Hpl
        rcases hb with hb | hb
        · have hix := idx_str hb
          have hlt : k < s.size := by have := (List.getElem?_eq_some_iff.1 hb).1; rwa [size_data] at this
          clear hb
          go_wp2_with fail
          go_loopw [10, 11] (fun fv jv wx => ∃ j : Nat, next ≤ j ∧ j ≤ 4 ∧ jv = .int .i64 (j : Int) ∧ fv = .int .i64 (fnd next p j) ∧ Ext w0 wx) (fun _ jv _ => 4 - (intOf jv).toNat)
          case atStart => exact ⟨next, Nat.le_refl _, hn4, rfl, by rw [fnd_low next p next (Nat.le_refl _)], HX.out⟩
          case round =>
            obtain ⟨j, hnj, hj4, rfl, rfl, hxj⟩ := hrel
            have HXj := Lib.hid hxj
            obtain ⟨fz, hfz⟩ : ∃ z, fnd next p j = z := ⟨_, rfl⟩
            have Hfz := Lib.hid hfz
            rw [hfz]
            clear hxj hfz
            by_cases hj : j < 4
            · go_wp2_with fail
              refine (rwords_any _).mono ?_
              rintro e w3 ⟨rfl, hw3⟩
              have c0 := words_cell j hj (by rw [← hw3]; exact Ext.refl _)
              have HX3 : Hid (Ext w0 w3) := Lib.hid (by rw [hw3]; exact HXj.out.alloc _)
              obtain ⟨y, hy⟩ : ∃ y, wordB j = y := ⟨_, rfl⟩
              rw [hy] at c0
              clear hw3
              by_cases hyp : y = p
              · have HF : Hid ((j : Int) = fnd next p (j + 1)) := Lib.hid (by unfold fnd; rw [if_pos ⟨hy.trans hyp, hnj⟩])
                subst hyp
                clear hy
                go_wp2_with fail
                go_roundw
                case rel => exact ⟨j + 1, by omega, by omega, by go_num, by rw [HF.out], HX3.out⟩
                case measure => simp [intOf]; omega
              · have HF : Hid (fz = fnd next p (j + 1)) := Lib.hid (by rw [← Hfz.out]; conv => rhs; unfold fnd
                                                                       rw [if_neg (fun h => hyp (hy.symm.trans h.1))])
                have hne := list_ne hyp
                clear hy hyp
                go_wp2_with fail
                go_roundw
                case rel => exact ⟨j + 1, by omega, by omega, by go_num, by rw [HF.out], HX3.out⟩
                case measure => simp [intOf]; omega
            · obtain rfl : j = 4 := by omega
              by_cases hrd : p = readB ∧ f = 0
              · have HD : Hid (DI s R (k + 1) (k + 1) can next true) := Lib.hid (Hnx.out can next true (by
                  have := Hst.out
                  rw [parse_read (if_pos hrd.2) hrd.1, Hpos.out] at this
                  exact this))
                obtain ⟨rfl, rfl⟩ := hrd
                unfold readB at *
                go_wp2_with fail
                go_roundw
                case rel => exact ⟨k + 1, k + 1, can, next, true, by omega, by go_num, by go_num, rfl, rfl, rfl, hc16, hn4, HD.out, HXj.out⟩
                case measure => simp [intOf]; omega
              · have hn0 : ¬ ((if f = 0 then 0 else 1) = 0 ∧ p = readB) := fun h => hrd ⟨h.2, by
                  by_cases h0 : f = 0
                  · exact h0
                  · have := h.1; rw [if_neg h0] at this; omega⟩
                have hcase : (p.toList == [114, 101, 97, 100]) = false ∨ ((p.toList == [114, 101, 97, 100]) = true ∧ f ≠ 0) := by
                  by_cases hpr : p = readB
                  · refine .inr ⟨?_, fun h => hrd ⟨hpr, h⟩⟩
                    rw [hpr, Lib.toList_data]; rfl
                  · exact .inl (read_ne hpr)
                clear hrd
                by_cases hbad : fnd (if rd = true then 4 else next) p 4 < 0
                · have HB : Hid ((0, some (f, p)) = R) := Lib.hid (by rw [← Hst.out, parse_bad hn0 hbad])
                  have HZ := Lib.hid ((Mod.block HXj.out _ hs0 (fun f => f)).trans HZ0.out)
                  have hz0 := cell_of_row _ _ 0 _ 35 (0, 0) HZ.out
                  have hz1 := cell_of_row _ _ 1 _ 35 (0, 0) HZ.out
                  have hz2 := cell_of_row _ _ 2 _ 35 (0, 0) HZ.out
                  simp only [List.getElem?_toArray, List.getElem?_cons_zero, List.getElem?_cons_succ] at hz0 hz1 hz2
                  have hzf : ∀ o, wr.frozen? ⟨w.heap.size, o, none⟩ = false := fun o => by simp [World.frozen?, HZ.out]
                  have zf0 := hzf 0
                  have zf1 := hzf 1
                  have zf2 := hzf 2
                  clear hzf
                  rcases hcase with hpr | ⟨hpr, hf0⟩
                  · skip
                    cases rd with
                    | true =>
                      by_cases hfz : fz < 0
                      · clear hbad hn0
                        go_wp2_with fail
                        obtain ⟨hx9, q0, q1, q2⟩ := row_set HZ.out rfl (.int .i64 2) (.int .i64 (f : Int)) (.string p) (HX0.out.trans HXj.out) (Nat.le_refl _)
                        exact bodyPost_ret (v := .tuple #[.int .u8 0, .agg #[.int .i64 2, .int .i64 (f : Int), .string p]]) (by simp [results, Tryd.results12, go_sem, q0, q1, q2]) rfl (RPost.bad HB.out hx9)
                      · clear hbad hn0
                        go_wp2_with fail
                        obtain ⟨hx9, q0, q1, q2⟩ := row_set HZ.out rfl (.int .i64 2) (.int .i64 (f : Int)) (.string p) (HX0.out.trans HXj.out) (Nat.le_refl _)
                        exact bodyPost_ret (v := .tuple #[.int .u8 0, .agg #[.int .i64 2, .int .i64 (f : Int), .string p]]) (by simp [results, Tryd.results12, go_sem, q0, q1, q2]) rfl (RPost.bad HB.out hx9)
                    | false =>
                      have hfz : fz < 0 := by rw [← Hfz.out]; exact hbad
                      clear hbad hn0
                      go_wp2_with fail
                      obtain ⟨hx9, q0, q1, q2⟩ := row_set HZ.out rfl (.int .i64 2) (.int .i64 (f : Int)) (.string p) (HX0.out.trans HXj.out) (Nat.le_refl _)
                      exact bodyPost_ret (v := .tuple #[.int .u8 0, .agg #[.int .i64 2, .int .i64 (f : Int), .string p]]) (by simp [results, Tryd.results12, go_sem, q0, q1, q2]) rfl (RPost.bad HB.out hx9)
                  · have hf1 : ((f : Int) == 0) = false := beq_eq_false_iff_ne.2 (by omega)
                    have hf2 : (f == 0) = false := beq_eq_false_iff_ne.2 hf0
                    cases rd with
                    | true =>
                      by_cases hfz : fz < 0
                      · clear hbad hn0
                        go_wp2_with fail
                        obtain ⟨hx9, q0, q1, q2⟩ := row_set HZ.out rfl (.int .i64 2) (.int .i64 (f : Int)) (.string p) (HX0.out.trans HXj.out) (Nat.le_refl _)
                        exact bodyPost_ret (v := .tuple #[.int .u8 0, .agg #[.int .i64 2, .int .i64 (f : Int), .string p]]) (by simp [results, Tryd.results12, go_sem, q0, q1, q2]) rfl (RPost.bad HB.out hx9)
                      · clear hbad hn0
                        go_wp2_with fail
                        obtain ⟨hx9, q0, q1, q2⟩ := row_set HZ.out rfl (.int .i64 2) (.int .i64 (f : Int)) (.string p) (HX0.out.trans HXj.out) (Nat.le_refl _)
                        exact bodyPost_ret (v := .tuple #[.int .u8 0, .agg #[.int .i64 2, .int .i64 (f : Int), .string p]]) (by simp [results, Tryd.results12, go_sem, q0, q1, q2]) rfl (RPost.bad HB.out hx9)
                    | false =>
                      have hfz : fz < 0 := by rw [← Hfz.out]; exact hbad
                      clear hbad hn0
                      go_wp2_with fail
                      obtain ⟨hx9, q0, q1, q2⟩ := row_set HZ.out rfl (.int .i64 2) (.int .i64 (f : Int)) (.string p) (HX0.out.trans HXj.out) (Nat.le_refl _)
                      exact bodyPost_ret (v := .tuple #[.int .u8 0, .agg #[.int .i64 2, .int .i64 (f : Int), .string p]]) (by simp [results, Tryd.results12, go_sem, q0, q1, q2]) rfl (RPost.bad HB.out hx9)
                · have hrd2 : rd = false := by
                    cases rd with
                    | false => rfl
                    | true => exact absurd (by rw [if_pos rfl, fnd_low 4 p 4 (Nat.le_refl _)]; decide) hbad
                  subst hrd2
                  rw [if_neg (by decide)] at hbad
                  obtain ⟨g, hg, hg4, -, -⟩ : ∃ g : Nat, fnd next p 4 = g ∧ g < 4 ∧ next ≤ g ∧ p = wordB g := by
                    rcases fnd_cases next p 4 with h | h
                    · exact absurd (by rw [h]; decide) hbad
                    · exact h
                  obtain rfl : fz = (g : Int) := Hfz.out.symm.trans hg
                  have HD : Hid (DI s R (k + 1) (k + 1) (can ||| 2 ^ g) (g + 1) false) := Lib.hid (Hnx.out _ _ false (by
                    have := Hst.out
                    rw [parse_good hn0 (by rw [if_neg (by decide)]; exact hg), Hpos.out] at this
                    exact this))
                  have hor := or_small hc16 hg4
                  have hbit := or_pow hc16 hg4
                  have hwr := wrap_pow hg4
                  clear hbad hn0 hg
                  rcases hcase with hpr | ⟨hpr, hf0⟩
                  · skip
                    go_wp2_with fail
                    go_roundw
                    case rel => exact ⟨k + 1, k + 1, can ||| 2 ^ g, g + 1, false, by omega, by go_num, by go_num, by first | rfl | (rw [hbit]), by go_num, rfl, hor, by omega, HD.out, HXj.out⟩
                    case measure => simp [intOf]; omega
                  · have hf1 : ((f : Int) == 0) = false := beq_eq_false_iff_ne.2 (by omega)
                    have hf2 : (f == 0) = false := beq_eq_false_iff_ne.2 hf0
                    go_wp2_with fail
                    go_roundw
                    case rel => exact ⟨k + 1, k + 1, can ||| 2 ^ g, g + 1, false, by omega, by go_num, by go_num, by first | rfl | (rw [hbit]), by go_num, rfl, hor, by omega, HD.out, HXj.out⟩
                    case measure => simp [intOf]; omega
        · have hks2 : ¬ ((k : Int) < (s.size : Int)) := by omega
          have hks3 : k + 1 ≤ s.size + 1 := by omega
          clear hb
          go_wp2_with fail
          go_loopw [10, 11] (fun fv jv wx => ∃ j : Nat, next ≤ j ∧ j ≤ 4 ∧ jv = .int .i64 (j : Int) ∧ fv = .int .i64 (fnd next p j) ∧ Ext w0 wx) (fun _ jv _ => 4 - (intOf jv).toNat)
          case atStart => exact ⟨next, Nat.le_refl _, hn4, rfl, by rw [fnd_low next p next (Nat.le_refl _)], HX.out⟩
          case round =>
            obtain ⟨j, hnj, hj4, rfl, rfl, hxj⟩ := hrel
            have HXj := Lib.hid hxj
            obtain ⟨fz, hfz⟩ : ∃ z, fnd next p j = z := ⟨_, rfl⟩
            have Hfz := Lib.hid hfz
            rw [hfz]
            clear hxj hfz
            by_cases hj : j < 4
            · go_wp2_with fail
              refine (rwords_any _).mono ?_
              rintro e w3 ⟨rfl, hw3⟩
              have c0 := words_cell j hj (by rw [← hw3]; exact Ext.refl _)
              have HX3 : Hid (Ext w0 w3) := Lib.hid (by rw [hw3]; exact HXj.out.alloc _)
              obtain ⟨y, hy⟩ : ∃ y, wordB j = y := ⟨_, rfl⟩
              rw [hy] at c0
              clear hw3
              by_cases hyp : y = p
              · have HF : Hid ((j : Int) = fnd next p (j + 1)) := Lib.hid (by unfold fnd; rw [if_pos ⟨hy.trans hyp, hnj⟩])
                subst hyp
                clear hy
                go_wp2_with fail
                go_roundw
                case rel => exact ⟨j + 1, by omega, by omega, by go_num, by rw [HF.out], HX3.out⟩
                case measure => simp [intOf]; omega
              · have HF : Hid (fz = fnd next p (j + 1)) := Lib.hid (by rw [← Hfz.out]; conv => rhs; unfold fnd
                                                                       rw [if_neg (fun h => hyp (hy.symm.trans h.1))])
                have hne := list_ne hyp
                clear hy hyp
                go_wp2_with fail
                go_roundw
                case rel => exact ⟨j + 1, by omega, by omega, by go_num, by rw [HF.out], HX3.out⟩
                case measure => simp [intOf]; omega
            · obtain rfl : j = 4 := by omega
              by_cases hrd : p = readB ∧ f = 0
              · have HD : Hid (DI s R (k + 1) (k + 1) can next true) := Lib.hid (Hnx.out can next true (by
                  have := Hst.out
                  rw [parse_read (if_pos hrd.2) hrd.1, Hpos.out] at this
                  exact this))
                obtain ⟨rfl, rfl⟩ := hrd
                unfold readB at *
                go_wp2_with fail
                go_roundw
                case rel => exact ⟨k + 1, k + 1, can, next, true, by omega, by go_num, by go_num, rfl, rfl, rfl, hc16, hn4, HD.out, HXj.out⟩
                case measure => simp [intOf]; omega
              · have hn0 : ¬ ((if f = 0 then 0 else 1) = 0 ∧ p = readB) := fun h => hrd ⟨h.2, by
                  by_cases h0 : f = 0
                  · exact h0
                  · have := h.1; rw [if_neg h0] at this; omega⟩
                have hcase : (p.toList == [114, 101, 97, 100]) = false ∨ ((p.toList == [114, 101, 97, 100]) = true ∧ f ≠ 0) := by
                  by_cases hpr : p = readB
                  · refine .inr ⟨?_, fun h => hrd ⟨hpr, h⟩⟩
                    rw [hpr, Lib.toList_data]; rfl
                  · exact .inl (read_ne hpr)
                clear hrd
                by_cases hbad : fnd (if rd = true then 4 else next) p 4 < 0
                · have HB : Hid ((0, some (f, p)) = R) := Lib.hid (by rw [← Hst.out, parse_bad hn0 hbad])
                  have HZ := Lib.hid ((Mod.block HXj.out _ hs0 (fun f => f)).trans HZ0.out)
                  have hz0 := cell_of_row _ _ 0 _ 35 (0, 0) HZ.out
                  have hz1 := cell_of_row _ _ 1 _ 35 (0, 0) HZ.out
                  have hz2 := cell_of_row _ _ 2 _ 35 (0, 0) HZ.out
                  simp only [List.getElem?_toArray, List.getElem?_cons_zero, List.getElem?_cons_succ] at hz0 hz1 hz2
                  have hzf : ∀ o, wr.frozen? ⟨w.heap.size, o, none⟩ = false := fun o => by simp [World.frozen?, HZ.out]
                  have zf0 := hzf 0
                  have zf1 := hzf 1
                  have zf2 := hzf 2
                  clear hzf
                  rcases hcase with hpr | ⟨hpr, hf0⟩
                  · skip
                    cases rd with
                    | true =>
                      by_cases hfz : fz < 0
                      · clear hbad hn0
                        go_wp2_with fail
                        obtain ⟨hx9, q0, q1, q2⟩ := row_set HZ.out rfl (.int .i64 2) (.int .i64 (f : Int)) (.string p) (HX0.out.trans HXj.out) (Nat.le_refl _)
                        exact bodyPost_ret (v := .tuple #[.int .u8 0, .agg #[.int .i64 2, .int .i64 (f : Int), .string p]]) (by simp [results, Tryd.results12, go_sem, q0, q1, q2]) rfl (RPost.bad HB.out hx9)
                      · clear hbad hn0
                        go_wp2_with fail
                        obtain ⟨hx9, q0, q1, q2⟩ := row_set HZ.out rfl (.int .i64 2) (.int .i64 (f : Int)) (.string p) (HX0.out.trans HXj.out) (Nat.le_refl _)
                        exact bodyPost_ret (v := .tuple #[.int .u8 0, .agg #[.int .i64 2, .int .i64 (f : Int), .string p]]) (by simp [results, Tryd.results12, go_sem, q0, q1, q2]) rfl (RPost.bad HB.out hx9)
                    | false =>
                      have hfz : fz < 0 := by rw [← Hfz.out]; exact hbad
                      clear hbad hn0
                      go_wp2_with fail
                      obtain ⟨hx9, q0, q1, q2⟩ := row_set HZ.out rfl (.int .i64 2) (.int .i64 (f : Int)) (.string p) (HX0.out.trans HXj.out) (Nat.le_refl _)
                      exact bodyPost_ret (v := .tuple #[.int .u8 0, .agg #[.int .i64 2, .int .i64 (f : Int), .string p]]) (by simp [results, Tryd.results12, go_sem, q0, q1, q2]) rfl (RPost.bad HB.out hx9)
                  · have hf1 : ((f : Int) == 0) = false := beq_eq_false_iff_ne.2 (by omega)
                    have hf2 : (f == 0) = false := beq_eq_false_iff_ne.2 hf0
                    cases rd with
                    | true =>
                      by_cases hfz : fz < 0
                      · clear hbad hn0
                        go_wp2_with fail
                        obtain ⟨hx9, q0, q1, q2⟩ := row_set HZ.out rfl (.int .i64 2) (.int .i64 (f : Int)) (.string p) (HX0.out.trans HXj.out) (Nat.le_refl _)
                        exact bodyPost_ret (v := .tuple #[.int .u8 0, .agg #[.int .i64 2, .int .i64 (f : Int), .string p]]) (by simp [results, Tryd.results12, go_sem, q0, q1, q2]) rfl (RPost.bad HB.out hx9)
                      · clear hbad hn0
                        go_wp2_with fail
                        obtain ⟨hx9, q0, q1, q2⟩ := row_set HZ.out rfl (.int .i64 2) (.int .i64 (f : Int)) (.string p) (HX0.out.trans HXj.out) (Nat.le_refl _)
                        exact bodyPost_ret (v := .tuple #[.int .u8 0, .agg #[.int .i64 2, .int .i64 (f : Int), .string p]]) (by simp [results, Tryd.results12, go_sem, q0, q1, q2]) rfl (RPost.bad HB.out hx9)
                    | false =>
                      have hfz : fz < 0 := by rw [← Hfz.out]; exact hbad
                      clear hbad hn0
                      go_wp2_with fail
                      obtain ⟨hx9, q0, q1, q2⟩ := row_set HZ.out rfl (.int .i64 2) (.int .i64 (f : Int)) (.string p) (HX0.out.trans HXj.out) (Nat.le_refl _)
                      exact bodyPost_ret (v := .tuple #[.int .u8 0, .agg #[.int .i64 2, .int .i64 (f : Int), .string p]]) (by simp [results, Tryd.results12, go_sem, q0, q1, q2]) rfl (RPost.bad HB.out hx9)
                · have hrd2 : rd = false := by
                    cases rd with
                    | false => rfl
                    | true => exact absurd (by rw [if_pos rfl, fnd_low 4 p 4 (Nat.le_refl _)]; decide) hbad
                  subst hrd2
                  rw [if_neg (by decide)] at hbad
                  obtain ⟨g, hg, hg4, -, -⟩ : ∃ g : Nat, fnd next p 4 = g ∧ g < 4 ∧ next ≤ g ∧ p = wordB g := by
                    rcases fnd_cases next p 4 with h | h
                    · exact absurd (by rw [h]; decide) hbad
                    · exact h
                  obtain rfl : fz = (g : Int) := Hfz.out.symm.trans hg
                  have HD : Hid (DI s R (k + 1) (k + 1) (can ||| 2 ^ g) (g + 1) false) := Lib.hid (Hnx.out _ _ false (by
                    have := Hst.out
                    rw [parse_good hn0 (by rw [if_neg (by decide)]; exact hg), Hpos.out] at this
                    exact this))
                  have hor := or_small hc16 hg4
                  have hbit := or_pow hc16 hg4
                  have hwr := wrap_pow hg4
                  clear hbad hn0 hg
                  rcases hcase with hpr | ⟨hpr, hf0⟩
                  · skip
                    go_wp2_with fail
                    go_roundw
                    case rel => exact ⟨k + 1, k + 1, can ||| 2 ^ g, g + 1, false, by omega, by go_num, by go_num, by first | rfl | (rw [hbit]), by go_num, rfl, hor, by omega, HD.out, HXj.out⟩
                    case measure => simp [intOf]; omega
                  · have hf1 : ((f : Int) == 0) = false := beq_eq_false_iff_ne.2 (by omega)
                    have hf2 : (f == 0) = false := beq_eq_false_iff_ne.2 hf0
                    go_wp2_with fail
                    go_roundw
                    case rel => exact ⟨k + 1, k + 1, can ||| 2 ^ g, g + 1, false, by omega, by go_num, by go_num, by first | rfl | (rw [hbit]), by go_num, rfl, hor, by omega, HD.out, HXj.out⟩
                    case measure => simp [intOf]; omega
    · have He := Lib.hid he
      have hks' : ¬ ((s.size : Int) + 1 ≤ (s.size : Int)) := by omega
      have HZ := Lib.hid ((Mod.block HX.out _ hs0 (fun f => f)).trans HZ0.out)
      have hz0 := cell_of_row _ _ 0 _ 35 (0, 0) HZ.out
      have hz1 := cell_of_row _ _ 1 _ 35 (0, 0) HZ.out
      have hz2 := cell_of_row _ _ 2 _ 35 (0, 0) HZ.out
      simp only [List.getElem?_toArray, List.getElem?_cons_zero, List.getElem?_cons_succ] at hz0 hz1 hz2
      have hzf : ∀ o, wr.frozen? ⟨w.heap.size, o, none⟩ = false := fun o => by simp [World.frozen?, HZ.out]
      have zf0 := hzf 0
      have zf1 := hzf 1
      have zf2 := hzf 2
      clear he hzf
      go_wp2_with fail
      obtain ⟨hx9, q0, q1, q2⟩ := row_set HZ.out rfl (.int .i64 0) (.int .i64 0) (.string ⟨#[]⟩) (HX0.out.trans HX.out) (Nat.le_refl _)
      exact bodyPost_ret (v := .tuple #[.int .u8 (can : Int), .agg #[.int .i64 0, .int .i64 0, .string ⟨#[]⟩]]) (by simp [results, Tryd.results12, go_sem, q0, q1, q2]) rfl (RPost.good He.out hx9)
end Go.Proofs.YtbicaejpckcfbaaDoor
