/- Locks, tables of locks in memory; the contracts of may, ahead, meet, meets, check, free. -/
import Derived.Test.YtpjgfkdnjkfnfaaChecked
import Derived.Test.YtpjgfkdnjkfnfaaBase
namespace Go.Proofs.Ytpjgfkdnjkfnfaa
open Go.RowKit

structure Lk where
  who : Int
  pos : Int
  num : Int
  sh : Bool

def Lk.enc (l : Lk) : List Value := [.int .i64 l.who, .int .i64 l.pos, .int .i64 l.num, .bool l.sh]
def flat (ls : List Lk) : List Value := ls.flatMap Lk.enc
def mayB (l : Lk) : Bool := decide (0 ≤ l.who) && decide (l.who < 256) && decide (0 ≤ l.pos) && decide (0 ≤ l.num) && decide (l.pos ≤ 4611686018427387904) && decide (l.num ≤ 4611686018427387904 - l.pos)
def aheadB (a : Lk) (q : Int) : Bool := decide (0 < a.num) && decide (a.pos + a.num ≤ q)
def meetB (a b : Lk) : Bool := !decide (a.who = b.who) && !(a.sh && b.sh) && !aheadB a b.pos && !aheadB b a.pos
def meetsB (l : Lk) (ls : List Lk) : Bool := ls.any (meetB l)

theorem may_iff (l : Lk) : mayB l = true ↔ 0 ≤ l.who ∧ l.who < 256 ∧ 0 ≤ l.pos ∧ 0 ≤ l.num ∧ l.pos ≤ 4611686018427387904 ∧ l.num ≤ 4611686018427387904 - l.pos := by
  simp [mayB, and_assoc]

theorem flat_length (ls : List Lk) : (flat ls).length = ls.length * 4 := by
  induction ls with
  | nil => rfl
  | cons l ls ih => simp only [flat, List.flatMap_cons, List.length_append, List.length_cons] at ih ⊢; rw [ih]; simp [Lk.enc]; omega
theorem flat_append (a b : List Lk) : flat (a ++ b) = flat a ++ flat b := by simp [flat]
theorem flat_get (ls : List Lk) : ∀ k l, ls[k]? = some l → (flat ls)[k * 4]? = some (.int .i64 l.who) ∧ (flat ls)[k * 4 + 1]? = some (.int .i64 l.pos) ∧ (flat ls)[k * 4 + 2]? = some (.int .i64 l.num) ∧ (flat ls)[k * 4 + 3]? = some (.bool l.sh) := by
  induction ls with
  | nil => intro k l h; simp at h
  | cons x ls ih =>
    intro k l h
    cases k with
    | zero =>
      simp at h; subst h
      simp [flat, Lk.enc]
    | succ k =>
      have := ih k l (by simpa using h)
      have e : ∀ j, (flat (x :: ls))[(k + 1) * 4 + j]? = (flat ls)[k * 4 + j]? := by
        intro j
        have : flat (x :: ls) = x.enc ++ flat ls := rfl
        rw [this, List.getElem?_append_right (by simp [Lk.enc]; omega)]
        congr 1
        simp [Lk.enc]; omega
      have e0 := e 0
      simp only [Nat.add_zero] at e0
      rw [e0, e 1, e 2, e 3]
      exact this
theorem flat_one (ls : List Lk) : ∀ u ∈ flat ls, u.oneCell' = true := by
  intro u hu
  obtain ⟨l, _, hu⟩ := List.mem_flatMap.1 hu
  simp [Lk.enc] at hu
  rcases hu with rfl | rfl | rfl | rfl <;> rfl

/-- A lock's four cells. -/
def LkAt (w : World) (b off : Nat) (l : Lk) : Prop :=
  w.cell? ⟨b, off, none⟩ = some (.int .i64 l.who) ∧ w.cell? ⟨b, off + 1, none⟩ = some (.int .i64 l.pos) ∧
  w.cell? ⟨b, off + 2, none⟩ = some (.int .i64 l.num) ∧ w.cell? ⟨b, off + 3, none⟩ = some (.bool l.sh)
/-- A slice value that reads as a list of locks. -/
def LkSl (w : World) (A : Option Addr) (n : Nat) (ls : List Lk) : Prop :=
  n = ls.length ∧ (0 < n → ∃ b off, A = some ⟨b, off, none⟩ ∧ b < w.heap.size ∧ ∀ k l, ls[k]? = some l → LkAt w b (off + k * 4) l)
theorem LkSl.ext {w w' : World} {A n ls} (h : LkSl w A n ls) (he : Ext w w') : LkSl w' A n ls := by
  refine ⟨h.1, fun hn => ?_⟩
  obtain ⟨b, off, rfl, hb, hc⟩ := h.2 hn
  refine ⟨b, off, rfl, Nat.lt_of_lt_of_le hb he.size, fun k l hl => ?_⟩
  obtain ⟨h1, h2, h3, h4⟩ := hc k l hl
  exact ⟨(he.cell hb).trans h1, (he.cell hb).trans h2, (he.cell hb).trans h3, (he.cell hb).trans h4⟩
theorem LkSl.of_own {w : World} {A n c ls} (h : Own w 29 4 (.slice A n c) n (flat ls)) : LkSl w A n ls := by
  have hl : n = ls.length := by have := h.1; rw [flat_length] at this; omega
  refine ⟨hl, fun hn => ?_⟩
  obtain ⟨A', cap, hv, _, hA⟩ := h.form
  injection hv with h1 _ h3
  subst h1
  obtain ⟨g, off, rfl, hg⟩ := hA hn
  refine ⟨g, off, rfl, hg, fun k l hk => ?_⟩
  obtain ⟨f1, f2, f3, f4⟩ := flat_get ls k l hk
  have := h.cells rfl
  exact ⟨this _ _ f1, this _ _ f2, this _ _ f3, this _ _ f4⟩

theorem ret_bool {a b : Bool} (h : a = b) : Ending.returned (.bool a) = .returned (.bool b) := by rw [h]
theorem ret_int {k : IntKind} {a b : Int} (h : a = b) : Ending.returned (.int k a) = .returned (.int k b) := by rw [h]

theorem ahead_any (wa pa na : Int) (sa : Bool) (q : Int) (w : World) (h0 : 0 ≤ pa) (h1 : 0 ≤ na) (h2 : pa + na ≤ 4611686018427387904) :
    Calls Try.prog 43 #[.agg #[.int .i64 wa, .int .i64 pa, .int .i64 na, .bool sa], .int .i64 q] w fun e w' => e = .returned (.bool (aheadB ⟨wa, pa, na, sa⟩ q)) ∧ Ext w w' := by
  go_enter Try.func43, Try.ntmps43
  go_wp2
  all_goals
    go_ret
    exact ⟨ret_bool (by simp [aheadB]; try omega), (Ext.refl _).alloc _⟩

theorem meet_any (wa pa na : Int) (sa : Bool) (wb pb nb : Int) (sb : Bool) (w : World) (h0 : 0 ≤ pa) (h1 : 0 ≤ na) (h2 : pa + na ≤ 4611686018427387904) (h3 : 0 ≤ pb) (h4 : 0 ≤ nb) (h5 : pb + nb ≤ 4611686018427387904) :
    Calls Try.prog 41 #[.agg #[.int .i64 wa, .int .i64 pa, .int .i64 na, .bool sa], .agg #[.int .i64 wb, .int .i64 pb, .int .i64 nb, .bool sb]] w
      fun e w' => e = .returned (.bool (meetB ⟨wa, pa, na, sa⟩ ⟨wb, pb, nb, sb⟩)) ∧ Ext w w' := by
  go_enter Try.func41, Try.ntmps41
  go_wp2_with (go_at_call 43; refine (ahead_any _ _ _ _ _ _ (by omega) (by omega) (by omega)).mono ?_; rintro e w1 ⟨rfl, hb⟩; obtain ⟨hc, hf⟩ := Ext.cells hb)
  all_goals
    go_ret
    exact ⟨ret_bool (by simp [meetB, *]), by repeat (first | assumption | exact Ext.refl _ | apply Ext.alloc | refine Ext.trans ?_ (by assumption))⟩

theorem may_any (wa pa na : Int) (sa : Bool) (w : World) :
    Calls Try.prog 29 #[.agg #[.int .i64 wa, .int .i64 pa, .int .i64 na, .bool sa]] w fun e w' => e = .returned (.bool (mayB ⟨wa, pa, na, sa⟩)) ∧ Ext w w' := by
  go_enter Try.func29, Try.ntmps29
  go_wp2
  all_goals
    go_ret
    exact ⟨ret_bool (by simp [mayB, *]; try omega), (Ext.refl _).alloc _⟩

theorem meets_any (wa pa na : Int) (sa : Bool) (A : Option Addr) (n c : Nat) (ls : List Lk) (w : World) (h0 : 0 ≤ pa) (h1 : 0 ≤ na) (h2 : pa + na ≤ 4611686018427387904) (hn : n ≤ 9223372036854775807)
    (hs : LkSl w A n ls) (hok : ∀ l ∈ ls, mayB l = true) :
    Calls Try.prog 39 #[.agg #[.int .i64 wa, .int .i64 pa, .int .i64 na, .bool sa], .slice A n c] w fun e w' => e = .returned (.bool (meetsB ⟨wa, pa, na, sa⟩ ls)) ∧ Ext w w' := by
  have Hok := Lib.hid hok
  have Hs := Lib.hid hs
  clear hok hs
  go_enter Try.func39, Try.ntmps39
  go_wp2
  go_loopw [9] (fun i wr => ∃ k : Nat, k ≤ n ∧ i = .int .i64 k ∧ meetsB ⟨wa, pa, na, sa⟩ (ls.take k) = false ∧ Ext (w.alloc (.cells #[.int .i64 wa, .int .i64 pa, .int .i64 na, .bool sa] 29)) wr) (fun i _ => n - (intOf i).toNat)
  case atStart => exact ⟨0, Nat.zero_le _, rfl, by simp [meetsB], Ext.refl _⟩
  case round =>
    obtain ⟨k, hk, rfl, hpre, hx⟩ := hrel
    have Hpre := Lib.hid hpre
    clear hpre
    have hsz := hx.lt_new
    have q0 : wr.cell? ⟨w.heap.size, 0, none⟩ = some (.int .i64 wa) := hx.cell_new 0
    have q1 : wr.cell? ⟨w.heap.size, 1, none⟩ = some (.int .i64 pa) := hx.cell_new 1
    have q2 : wr.cell? ⟨w.heap.size, 2, none⟩ = some (.int .i64 na) := hx.cell_new 2
    have q3 : wr.cell? ⟨w.heap.size, 3, none⟩ = some (.bool sa) := hx.cell_new 3
    by_cases hlt : k < n
    · obtain ⟨b, off, rfl, hb, hce⟩ := (Hs.out.ext (((Ext.refl _).alloc _).trans hx)).2 (by omega)
      have hkl : k < ls.length := by have := Hs.out.1; omega
      obtain ⟨c1, c2, c3, c4⟩ := hce k ls[k] (List.getElem?_eq_getElem hkl)
      obtain ⟨m1, m2, m3, m4, m5, m6⟩ := (may_iff _).1 (Hok.out ls[k] (List.getElem_mem hkl))
      clear hce
      go_wp2_with (go_at_call 41; refine (meet_any _ _ _ _ _ _ _ _ _ (by omega) (by omega) (by omega) (by omega) (by omega) (by omega)).mono ?_; rintro e w1 ⟨rfl, hb1⟩)
      · go_ret
        refine ⟨ret_bool (List.any_eq_true.2 ⟨_, List.getElem_mem hkl, by assumption⟩).symm, ?_⟩
        repeat (first | assumption | exact Ext.refl _ | apply Ext.alloc | refine Ext.trans ?_ (by assumption))
      · go_roundw
        case rel =>
          refine ⟨k + 1, by omega, by go_num, ?_, ?_⟩
          · have h := Hpre.out
            unfold meetsB at h ⊢
            rw [List.take_succ_eq_append_getElem hkl, List.any_append, h]
            simp
            assumption
          · repeat (first | assumption | exact Ext.refl _ | refine Ext.trans ?_ (by assumption) | apply Ext.alloc)
        case measure => simp [intOf]; omega
    · go_wp2
      go_ret
      refine ⟨ret_bool ?_, ((Ext.refl _).alloc _).trans hx⟩
      have : k = n := by omega
      subst this
      have h := Hpre.out
      rw [Hs.out.1, List.take_length] at h
      rw [h]
end Go.Proofs.Ytpjgfkdnjkfnfaa
