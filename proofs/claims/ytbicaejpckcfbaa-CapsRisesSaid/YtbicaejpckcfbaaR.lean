/- The statement CapsStack walked. -/
import Derived.Test.YtbicaejpckcfbaaQ
namespace Go.Proofs.Ytbicaejpckcfbaa
open Go.RowKit

def Wr.enc (x : Wr) : List Value := [.int .i8 x.kd, .int .i64 x.n, .int .i64 x.m, .int .u64 x.key]
def flatW (ls : List Wr) : List Value := ls.flatMap Wr.enc
theorem flatW_length (ls : List Wr) : (flatW ls).length = ls.length * 4 := by
  induction ls with
  | nil => rfl
  | cons l ls ih => simp only [flatW, List.flatMap_cons, List.length_append, List.length_cons] at ih ⊢; rw [ih]; simp [Wr.enc]; omega
theorem flatW_append (a b : List Wr) : flatW (a ++ b) = flatW a ++ flatW b := by simp [flatW]
theorem flatW_one (ls : List Wr) : ∀ u ∈ flatW ls, u.oneCell' = true := by
  intro u hu
  obtain ⟨l, _, hu⟩ := List.mem_flatMap.1 hu
  simp [Wr.enc] at hu
  rcases hu with rfl | rfl | rfl | rfl <;> rfl
/-- The value at place k * 4 + j. -/
theorem flatW_get (ls : List Wr) : ∀ (k j : Nat) x, ls[k]? = some x → j < 4 → (flatW ls)[k * 4 + j]? = x.enc[j]? := by
  induction ls with
  | nil => intro k j x h; simp at h
  | cons y ls ih =>
    intro k j x h hj
    have e : flatW (y :: ls) = y.enc ++ flatW ls := rfl
    rw [e]
    cases k with
    | zero =>
      simp at h; subst h
      rw [List.getElem?_append_left (by simp [Wr.enc]; omega), Nat.zero_mul, Nat.zero_add]
    | succ k =>
      rw [List.getElem?_append_right (by simp [Wr.enc]; omega)]
      have := ih k j x (by simpa using h) hj
      rw [← this]
      congr 1
      simp [Wr.enc]; omega
theorem flatW_at (ls : List Wr) (j : Nat) (hj : j < ls.length * 4) : ∃ x, ls[j / 4]? = some x ∧ (flatW ls)[j]? = x.enc[j % 4]? := by
  have h : j / 4 < ls.length := by omega
  refine ⟨ls[j / 4], List.getElem?_eq_getElem h, ?_⟩
  have := flatW_get ls (j / 4) (j % 4) _ (List.getElem?_eq_getElem h) (by omega)
  rwa [show j / 4 * 4 + j % 4 = j from by omega] at this
theorem WrSl.of_own {w : World} {A : Option Addr} {c : Nat} {ls : List Wr} (h : Own w 25 4 (.slice A ls.length c) ls.length (flatW ls)) : WrSl w A ls.length ls := by
  refine ⟨rfl, fun h0 => ?_⟩
  obtain ⟨A', c', hv, -, hA⟩ := h.form
  injection hv with h1 _ h3
  subst h1
  obtain ⟨g, off, rfl, hg⟩ := hA h0
  refine ⟨g, off, rfl, hg, fun k x hk => ?_⟩
  refine ⟨h.cells rfl (k * 4) _ (flatW_get ls k 0 x hk (by decide)), ?_, ?_, ?_⟩
  · have := h.cells rfl (k * 4 + 1) _ (flatW_get ls k 1 x hk (by decide)); rwa [← Nat.add_assoc] at this
  · have := h.cells rfl (k * 4 + 2) _ (flatW_get ls k 2 x hk (by decide)); rwa [← Nat.add_assoc] at this
  · have := h.cells rfl (k * 4 + 3) _ (flatW_get ls k 3 x hk (by decide)); rwa [← Nat.add_assoc] at this
theorem WrSl.news {w : World} {A : Option Addr} {n : Nat} {ls : List Wr} (h : WrSl w A n ls) : 0 < n → ∃ ad, A = some ad ∧ ∀ j u, (flatW ls)[j]? = some u → w.cell? (ad.add j) = some u := fun h0 => by
  obtain ⟨b, off, rfl, hb, hc⟩ := h.2 h0
  refine ⟨_, rfl, fun j u hu => ?_⟩
  have hj : j < ls.length * 4 := by have := (List.getElem?_eq_some_iff.1 hu).1; rwa [flatW_length] at this
  obtain ⟨x, hx, he⟩ := flatW_at ls j hj
  rw [he] at hu
  obtain ⟨h1, h2, h3, h4⟩ := hc (j / 4) x hx
  rw [add_off]
  rcases (by omega : j % 4 = 0 ∨ j % 4 = 1 ∨ j % 4 = 2 ∨ j % 4 = 3) with e | e | e | e <;> rw [e] at hu
  · rw [show off + j = off + j / 4 * 4 from by omega]; simp [Wr.enc] at hu; rw [h1, hu]
  · rw [show off + j = off + j / 4 * 4 + 1 from by omega]; simp [Wr.enc] at hu; rw [h2, hu]
  · rw [show off + j = off + j / 4 * 4 + 2 from by omega]; simp [Wr.enc] at hu; rw [h3, hu]
  · rw [show off + j = off + j / 4 * 4 + 3 from by omega]; simp [Wr.enc] at hu; rw [h4, hu]
theorem Try.info25 : (Try.prog.info? 25).map (fun i => (i.zero, i.size, i.bytes)) = some (some (.agg #[.int .i8 0, .int .i64 0, .int .i64 0, .int .u64 0]), 4, 32) := by kernel_rfl

set_option maxRecDepth 20000 in
set_option maxHeartbeats 2000000 in
theorem capsStack_walk (A : Option Addr) (n c : Nat) (ls : List Wr) (leaf : Nat) (w : World) (hs : WrSl w A n ls) (hok : ∀ x ∈ ls, x.ok) (hn : n * 32 ≤ 140737488355328) :
    Calls Try.prog 5 #[.slice A n c, .int .u8 (leaf : Int)] w fun e w' => e = .returned (.bool true) ∧ Ext w w' := by
  have HS := Lib.hid hs
  have Hl := Lib.hid hs.1
  have HK := Lib.hid hok
  have hnews := Lib.hid hs.news
  have hc : n ≤ 9223372036854775807 := by omega
  clear hs hok
  obtain ⟨i, hi, hz, hsz, hby⟩ := info_parts Try.info25
  go_enter Try.func5, Try.ntmps5
  go_wp2_with (at_builtin; refine wpList_append_own_any _ rfl (.const (.slice none 0 0)) (.tmp 11) 35 rfl 25 i _ 4 32 Try.underlying35 hi hz hsz hby rfl (by decide) (.slice none 0 0) 0 [] rfl (Own.nil _ _ _) A n c (flatW ls) rfl (by rw [flatW_length]; have := Hl.out; omega) hnews.out (flatW_one ls) (by unfold maxLen; omega) (by omega) ?_)
  intro v1 w1 ho1 hg1 hv1
  have hx1 : Ext w w1 := (Ext.refl _).grown hg1 (fun j h => by simp [Value.ownBlock] at h)
  obtain ⟨A1, c1, rfl, -, -⟩ := ho1.form
  have HS1 : Hid (WrSl w1 A1 n ls) := by
    have := Hl.out
    subst this
    exact WrSl.of_own ho1
  have HX1 := Lib.hid hx1
  clear ho1 hg1 hv1 hx1
  go_wp2_with fail
  refine (stack_any A1 n c1 ls leaf w1 HS1.out HK.out hc).mono ?_
  rintro e w2 ⟨rfl, hx2⟩
  obtain ⟨sa, se, hsv⟩ : ∃ (sa : Nat) (se : Int), stackN ls leaf = (sa, se) := ⟨_, _, rfl⟩
  rw [hsv]
  have Hsv := Lib.hid hsv
  have HX2 := Lib.hid (HX1.out.trans hx2)
  have HS2 := Lib.hid (HS1.out.ext hx2)
  clear hsv hx2
  go_wp2_with fail
  refine (refstack_any A n c ls leaf w2 (HS.out.ext HX2.out) HK.out hc).mono ?_
  rintro e w3 ⟨rfl, hx3⟩
  rw [Hsv.out]
  have HX3 := Lib.hid (HX2.out.trans hx3)
  have HS3 := Lib.hid (HS2.out.ext hx3)
  have HS4 := Lib.hid (HS.out.ext HX3.out)
  clear hx3
  go_wp2_with fail
  go_loopw [27] (fun i wr => ∃ k : Nat, k ≤ n ∧ i = .int .i64 k ∧ Ext w3 wr) (fun i _ => n - (intOf i).toNat)
  case atStart => exact ⟨0, Nat.zero_le _, rfl, Ext.refl _⟩
  case round =>
    obtain ⟨k, hk, rfl, hx⟩ := hrel
    by_cases hlt : k < n
    · obtain ⟨b1, o1, x, rfl, hxe, p0, p1, p2, p3⟩ := (HS3.out.ext hx).at hlt
      obtain ⟨b2, o2, y, rfl, hye, q0, q1, q2, q3⟩ := (HS4.out.ext hx).at hlt
      obtain rfl : x = y := by rw [hxe] at hye; exact Option.some.inj hye
      clear hxe hye
      go_wp2_with fail
      refine region_lin (fun wx => Ext wr wx) 100000 [(0, 3), (1, 3), (2, 3), (3, 0), (4, 3), (5, 3), (6, 3), (7, 0), (8, 3)] ?_ (by kernel_rfl) (by kernel_rfl) ?_ (fun _ _ _ _ _ h => h) ((Ext.refl _).drew) ?_
      rotate_left
      (simp only [planOps, List.mapM_cons, List.mapM_nil, List.getElem?_toArray, List.getElem?_cons_zero, List.getElem?_cons_succ, Option.map_some, Option.bind_eq_bind, Option.bind_some, Option.pure_def]; rfl)
      intro wd hwd hxd
      repeat (first | (refine lin_take ?_ (by rfl) (fun wx hx => ?_) ?_; rotate_left; go_simp; (with_reducible rfl); try simp only [Act.put, List.setIfInBounds_toArray, List.set_cons_zero, List.set_cons_succ]) | (refine lin_skip (by rfl) ?_; try simp only [Act.put, List.setIfInBounds_toArray, List.set_cons_zero, List.set_cons_succ]) | (refine lin_take3 ?_ (by rfl) (fun wx hx => ?_) ?_; rotate_left; go_simp; (with_reducible rfl); try simp only [Act.put, List.setIfInBounds_toArray, List.set_cons_zero, List.set_cons_succ]))
      refine lin_nil ?_
      go_wp2_with fail
      go_roundw
      case rel => exact ⟨k + 1, by omega, by go_num, hx.trans hxd⟩
      case measure => simp [intOf]; omega
    · go_wp2_with fail
      refine (works_any _).mono ?_
      rintro e w5 ⟨rfl, hx5⟩
      go_wp2_with fail
      go_ret
      exact ⟨rfl, HX3.out.trans (hx.trans hx5)⟩
end Go.Proofs.Ytbicaejpckcfbaa
