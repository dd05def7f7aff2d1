/- The reader in memory; must, run, gone, again, New, Done, Held. -/
import Derived.Test.YtcpnnkkfndgpjaaDoorSB
namespace Go.Proofs.YtcpnnkkfndgpjaaDoor
open Go.RowKit

theorem lin_skip3 {P : Program} {ops : Array Oper} {Q : Exit → Act → World → Prop} {S : World → Prop} {a : Act} {w : World} {o : Oper} {rest : List (Oper × Nat)} (hw : Region.wanted o (yielded ops a.tmps) = false)
    (h : wpLin P ops Q S rest (a.put o.dst undef) w) : wpLin P ops Q S ((o, 3) :: rest) a w := ⟨undef, .inr ⟨hw, rfl⟩, h⟩
/-- A reader: her seven cells; the bytes that she holds are her own. -/
structure RdAt (w : World) (r : Nat) (A : Option Addr) (n c : Nat) (x : Rd) (torn : Bool) : Prop where
  blk : w.heap[r]? = some (.cells #[.slice A n c, .int .u64 (x.sum : Int), .bool x.begun, .int .i64 (x.items : Int), .string ⟨x.ahead.toArray⟩, .bool torn, .bool x.done] 63 (0, 0))
  own : Own w 5 1 (.slice A n c) n (u8v x.b)
  apart : (Value.slice A n c).ownBlock ≠ some r
theorem heap_setCell_at {w : World} {t i : Nat} {cs : Array Value} {ty : TypeId} {fz : Nat × Nat} (hb : w.heap[t]? = some (.cells cs ty fz)) (u : Value) : (w.setCell ⟨t, i, none⟩ u).heap[t]? = some (.cells (cs.setIfInBounds i u) ty fz) := by
  simp [World.setCell, Array.getElem?_modify, hb]
section
variable {w w' : World} {r n c : Nat} {A : Option Addr} {x : Rd} {torn : Bool} {S : Nat → Prop}
theorem RdAt.len (h : RdAt w r A n c x torn) : n = x.b.length := by have := h.own.1; simp [u8v] at this; omega
theorem RdAt.lt (h : RdAt w r A n c x torn) : r < w.heap.size := (Array.getElem?_eq_some_iff.1 h.blk).1
theorem RdAt.bytes (h : RdAt w r A n c x torn) : BySl w A n x.b := h.own.bytes rfl
theorem RdAt.mod (h : RdAt w r A n c x torn) (hm : Mod S w w') (h1 : ¬ S r) (h2 : ∀ k, (Value.slice A n c).ownBlock = some k → ¬ S k) : RdAt w' r A n c x torn :=
  ⟨(hm.block r h.lt h1).trans h.blk, h.own.mod hm h2, h.apart⟩
theorem RdAt.ext (h : RdAt w r A n c x torn) (hm : Ext w w') : RdAt w' r A n c x torn := h.mod hm (fun f => f) (fun _ _ f => f)
theorem RdAt.cells (h : RdAt w r A n c x torn) : w.cell? ⟨r, 0, none⟩ = some (.slice A n c) ∧ w.cell? ⟨r, 1, none⟩ = some (.int .u64 (x.sum : Int)) ∧ w.cell? ⟨r, 2, none⟩ = some (.bool x.begun) ∧ w.cell? ⟨r, 3, none⟩ = some (.int .i64 (x.items : Int)) ∧
    w.cell? ⟨r, 4, none⟩ = some (.string ⟨x.ahead.toArray⟩) ∧ w.cell? ⟨r, 5, none⟩ = some (.bool torn) ∧ w.cell? ⟨r, 6, none⟩ = some (.bool x.done) ∧ (∀ o, w.frozen? ⟨r, o, none⟩ = false) := by
  have hc := fun i => cell_of_row w r i _ 63 (0, 0) h.blk
  refine ⟨hc 0, hc 1, hc 2, hc 3, hc 4, hc 5, hc 6, fun o => ?_⟩
  simp [World.frozen?, h.blk]
/-- The sum is stored. -/
theorem RdAt.setSum (h : RdAt w r A n c x torn) (s : Nat) : RdAt (w.setCell ⟨r, 1, none⟩ (.int .u64 (s : Int))) r A n c { x with sum := s } torn := by
  have hm : Mod (fun k => k = r) w (w.setCell ⟨r, 1, none⟩ (.int .u64 (s : Int))) := (Mod.refl _ _).setCell _ _ (fun _ => rfl)
  exact ⟨heap_setCell_at h.blk _, h.own.mod hm (fun k hk e => h.apart (e ▸ hk)), h.apart⟩
theorem RdAt.setBegun (h : RdAt w r A n c x torn) (s : Bool) : RdAt (w.setCell ⟨r, 2, none⟩ (.bool s)) r A n c { x with begun := s } torn := by
  have hm : Mod (fun k => k = r) w (w.setCell ⟨r, 2, none⟩ (.bool s)) := (Mod.refl _ _).setCell _ _ (fun _ => rfl)
  exact ⟨heap_setCell_at h.blk _, h.own.mod hm (fun k hk e => h.apart (e ▸ hk)), h.apart⟩
theorem RdAt.setItems (h : RdAt w r A n c x torn) (s : Nat) : RdAt (w.setCell ⟨r, 3, none⟩ (.int .i64 (s : Int))) r A n c { x with items := s } torn := by
  have hm : Mod (fun k => k = r) w (w.setCell ⟨r, 3, none⟩ (.int .i64 (s : Int))) := (Mod.refl _ _).setCell _ _ (fun _ => rfl)
  exact ⟨heap_setCell_at h.blk _, h.own.mod hm (fun k hk e => h.apart (e ▸ hk)), h.apart⟩
theorem RdAt.setAhead (h : RdAt w r A n c x torn) (s : Bs) : RdAt (w.setCell ⟨r, 4, none⟩ (.string ⟨s.toArray⟩)) r A n c { x with ahead := s } torn := by
  have hm : Mod (fun k => k = r) w (w.setCell ⟨r, 4, none⟩ (.string ⟨s.toArray⟩)) := (Mod.refl _ _).setCell _ _ (fun _ => rfl)
  exact ⟨heap_setCell_at h.blk _, h.own.mod hm (fun k hk e => h.apart (e ▸ hk)), h.apart⟩
theorem RdAt.setTorn (h : RdAt w r A n c x torn) (s : Bool) : RdAt (w.setCell ⟨r, 5, none⟩ (.bool s)) r A n c x s := by
  have hm : Mod (fun k => k = r) w (w.setCell ⟨r, 5, none⟩ (.bool s)) := (Mod.refl _ _).setCell _ _ (fun _ => rfl)
  exact ⟨heap_setCell_at h.blk _, h.own.mod hm (fun k hk e => h.apart (e ▸ hk)), h.apart⟩
theorem RdAt.setDone (h : RdAt w r A n c x torn) (s : Bool) : RdAt (w.setCell ⟨r, 6, none⟩ (.bool s)) r A n c { x with done := s } torn := by
  have hm : Mod (fun k => k = r) w (w.setCell ⟨r, 6, none⟩ (.bool s)) := (Mod.refl _ _).setCell _ _ (fun _ => rfl)
  exact ⟨heap_setCell_at h.blk _, h.own.mod hm (fun k hk e => h.apart (e ▸ hk)), h.apart⟩
theorem RdAt.setB (h : RdAt w r A n c x torn) {A' : Option Addr} {n' c' : Nat} {b' : Bs} (ho : Own w 5 1 (.slice A' n' c') n' (u8v b')) (ha : (Value.slice A' n' c').ownBlock ≠ some r) : RdAt (w.setCell ⟨r, 0, none⟩ (.slice A' n' c')) r A' n' c' { x with b := b' } torn := by
  have hm : Mod (fun k => k = r) w (w.setCell ⟨r, 0, none⟩ (.slice A' n' c')) := (Mod.refl _ _).setCell _ _ (fun _ => rfl)
  exact ⟨heap_setCell_at h.blk _, ho.mod hm (fun k hk e => ha (e ▸ hk)), ha⟩
theorem mod_set (w : World) (r i : Nat) (u : Value) : Mod (fun k => k = r) w (w.setCell ⟨r, i, none⟩ u) := (Mod.refl _ _).setCell _ _ (fun _ => rfl)
end
/-- What is left behind k elements. -/
theorem Own.tail {w : World} {g off n c : Nat} {l : Bs} (h : Own w 5 1 (.slice (some ⟨g, off, none⟩) n c) n (u8v l)) {k : Nat} (hk : k ≤ n) : Own w 5 1 (.slice (some ⟨g, if c = k then off else off + k, none⟩) (n - k) (c - k)) (n - k) (u8v (l.drop k)) := by
  have hl : l.length = n := by have := h.1; simp [u8v] at this; omega
  refine ⟨by simp [u8v]; omega, ?_⟩
  rcases h.2 with ⟨hn, _⟩ | ⟨g', off', cap, cur, hv, hg, hnc, hcm, hcs, ht⟩
  · cases hn
  injection hv with h1 h2 h3
  injection h1 with h1
  injection h1 with h1 h4
  subst h1 h4 h3
  have hkc : k ≤ c := Nat.le_trans hk hnc
  refine .inr ⟨g, _, c - k, cur, rfl, hg, by omega, by omega, ?_, ?_⟩
  · by_cases hck : c = k
    · rw [if_pos hck]; subst hck; simp; omega
    · rw [if_neg hck]; omega
  · split
    · rename_i hck
      have hnk : n = k := Nat.le_antisymm (hck ▸ hnc) hk
      have e0 : n - k = 0 := by omega
      have hd : l.drop k = [] := List.drop_eq_nil_of_le (by omega)
      rw [hd, e0]
      simp [u8v]
    · have e : u8v (l.drop k) = (u8v l).drop k := by simp [u8v]
      rw [e, ← ht, List.drop_take, List.drop_drop]
      congr 1
      omega
theorem must_yes (w : World) : Calls Tryd.prog 43 #[.bool true] w fun e w' => e = .returned (.tuple #[]) ∧ w = w' := by
  go_enter Tryd.func43, Tryd.ntmps43
  go_wp2
  go_end0
  exact ⟨rfl, rfl⟩
def tornV : Ending := .panicked [{ v := .iface 65 (.agg #[]), recovered := false }]
theorem must_no (w : World) : Calls Tryd.prog 43 #[.bool false] w fun e w' => e = tornV ∧ w = w' := by
  go_enter Tryd.func43, Tryd.ntmps43
  go_wp2
  exact ⟨rfl, rfl, rfl⟩
set_option maxRecDepth 20000 in
theorem run_any (Z : Sp) (r : Nat) (A B : Option Addr) (n c m d : Nat) (x : Rd) (torn : Bool) (l : Bs) (w : World) (hr : RdAt w r A n c x torn) (hl : BySl w B m l) (hB : ∀ b off, B = some ⟨b, off, none⟩ → b ≠ r) (hm : m ≤ 9223372036854775807) (hs : x.sum < 18446744073709551616) :
    Calls Tryd.prog 47 #[.pointer (some ⟨r, 0, none⟩), .slice B m d] w fun e w' => e = .returned (.tuple #[]) ∧ RdAt w' r A n c { x with sum := fnv Z x.sum l } torn ∧ Mod (fun k => k = r) w w' := by
  have HL := Lib.hid hl
  have HR := Lib.hid hr
  have HB := Lib.hid hB
  have HS : Hid (True ∧ x.sum < 18446744073709551616) := ⟨trivial, hs⟩
  clear hl hr hB hs
  go_enter Tryd.func47, Tryd.ntmps47
  go_wp2_with fail
  go_loopw [8] (fun i wr => ∃ k : Nat, k ≤ m ∧ i = .int .i64 (k : Int) ∧ RdAt wr r A n c { x with sum := fnv Z x.sum (l.take k) } torn ∧ Mod (fun k => k = r) w wr) (fun i _ => m - (intOf i).toNat)
  case atStart => exact ⟨0, Nat.zero_le _, rfl, HR.out, Mod.refl _ _⟩
  case round =>
    obtain ⟨k, hk, rfl, hr, hmo⟩ := hrel
    have HR2 := Lib.hid hr
    have HMo := Lib.hid hmo
    clear hr hmo
    obtain ⟨s, hs⟩ : ∃ s, fnv Z x.sum (l.take k) = s := ⟨_, rfl⟩
    have Hs := Lib.hid hs
    rw [hs] at HR2
    have Hlt : Hid (True ∧ s < 18446744073709551616) := ⟨trivial, by rw [← hs]; exact fnv_lt _ _ HS.out.2⟩
    clear hs
    by_cases hlt : k < m
    · obtain ⟨b, off, ch, rfl, -, hck, k0⟩ := (HL.out.mod HMo.out (fun b off e => HB.out b off e)).at hlt
      have d0 := k0 _ (Ext.refl _)
      have Hck := Lib.hid hck
      obtain ⟨-, d1, -, -, -, -, -, f0⟩ := HR2.out.cells
      have fr := f0 1
      simp only at d1
      clear k0 hck f0
      go_wp2_with fail
      go_roundw
      case rel => exact ⟨k + 1, by omega, by go_num, by rw [st_step Z Hlt.out.2, take_snoc Hck.out, fnv_snoc, Hs.out]; exact HR2.out.setSum _, (HMo.out.trans (mod_set _ _ _ _) (fun _ _ e => e))⟩
      case measure => simp [intOf]; omega
    · have hkn : k = m := by omega
      have He : Hid (s = fnv Z x.sum l) := Lib.hid (by rw [← Hs.out, hkn, HL.out.1, List.take_length])
      clear hkn
      go_wp2_with fail
      go_end0
      exact ⟨rfl, by rw [← He.out]; exact HR2.out, HMo.out⟩
set_option maxRecDepth 20000 in
theorem gone_any (Z : Sp) (r g off : Nat) (n c k : Nat) (x : Rd) (torn : Bool) (w : World) (hr : RdAt w r (some ⟨g, off, none⟩) n c x torn) (hk : k ≤ n) (hn : n ≤ 9223372036854775807) (hs : x.sum < 18446744073709551616) :
    Calls Tryd.prog 45 #[.pointer (some ⟨r, 0, none⟩), .int .i64 (k : Int)] w fun e w' => e = .returned (.tuple #[]) ∧ RdAt w' r (some ⟨g, if c = k then off else off + k, none⟩) (n - k) (c - k) { x with sum := fnv Z x.sum (x.b.take k), b := x.b.drop k } torn ∧ Mod (fun k => k = r) w w' := by
  have HR := Lib.hid hr
  have hgr : g ≠ r := fun e => hr.apart (by simp [Value.ownBlock, e])
  obtain ⟨d0, -, -, -, -, -, -, -⟩ := hr.cells
  have hnc : n ≤ c := by obtain ⟨_, _, hv, h2, -⟩ := hr.own.form; injection hv with _ _ h3; omega
  have HP : Hid (BySl w (some ⟨g, off, none⟩) k (x.b.take k)) := Lib.hid (by have := hr.bytes.part (i := 0) (k := k) (by omega); simpa using this)
  clear hr
  by_cases hck : c = k
  all_goals
    go_enter Tryd.func45, Tryd.ntmps45
    go_wp2_with fail
    refine (run_any Z r (some ⟨g, off, none⟩) (some ⟨g, off, none⟩) n c k _ x torn (x.b.take k) w HR.out HP.out (fun b o e => by injection e with e; injection e with e1 e2; rw [← e1]; exact hgr) (by omega) hs).mono ?_
    rintro e w1 ⟨rfl, hr1, hm1⟩
    obtain ⟨e0, -, -, -, -, -, -, f0⟩ := hr1.cells
    have f00 := f0 0
    have HR1 := Lib.hid hr1
    have HM1 := Lib.hid hm1
    have HO := Lib.hid (hr1.own.tail hk)
    clear hr1 hm1 f0
    go_wp2_with fail
    go_end0
    try rw [if_pos hck, show c - k = 0 from by omega]
    try rw [if_neg hck]
    refine ⟨rfl, ?_, HM1.out.trans (mod_set _ _ _ _) (fun _ _ e => e)⟩
    have ho := HO.out
    first
    | (rw [if_pos hck, show c - k = 0 from by omega] at ho; exact RdAt.setB (x := { x with sum := fnv Z x.sum (x.b.take k) }) HR1.out ho (by simp [Value.ownBlock]; exact hgr))
    | (rw [if_neg hck] at ho; exact RdAt.setB (x := { x with sum := fnv Z x.sum (x.b.take k) }) HR1.out ho (by simp [Value.ownBlock]; exact hgr))
end Go.Proofs.YtcpnnkkfndgpjaaDoor
