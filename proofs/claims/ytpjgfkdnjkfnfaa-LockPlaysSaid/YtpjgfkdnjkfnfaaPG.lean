/- The document's Circle: a table of edges in memory; the search, as plain laws. -/
import Derived.Test.YtpjgfkdnjkfnfaaPE
namespace Go.Proofs.Ytpjgfkdnjkfnfaa
open Go.RowKit Go.Maps

def ints (l : List Nat) : List Value := l.map fun b : Nat => .int .i64 (b : Int)
theorem ints_one (l : List Nat) : ∀ u ∈ ints l, u.oneCell' = true := by
  intro u hu
  obtain ⟨b, _, rfl⟩ := List.mem_map.1 hu
  rfl
theorem ints_length (l : List Nat) : (ints l).length = l.length := List.length_map ..
theorem ints_get {l : List Nat} {j : Nat} (h : j < l.length) : (ints l)[j]? = some (.int .i64 (l[j] : Int)) := by simp [ints, h]
theorem ints_append (a b : List Nat) : ints (a ++ b) = ints a ++ ints b := List.map_append ..
theorem Try.info3 : (Try.prog.info? 3).map (fun i => (i.zero, i.size, i.bytes)) = some (some (.int .i64 0), 1, 8) := by kernel_rfl

/-- A table of 256 lists, at block g; what the lists own lies at lo or behind it. -/
def ET (wr : World) (lo g : Nat) (E : Nat → List Nat) : Prop := ∃ cs : Array Value, wr.heap[g]? = some (.cells cs 63 (0, 0)) ∧ cs.size = 256 ∧
  (∀ (a : Nat) (v : Value), cs[a]? = some v → Own wr 3 1 v (E a).length (ints (E a)) ∧ ∀ k, v.ownBlock = some k → lo ≤ k) ∧
  (∀ (a b : Nat) (u v : Value) (k : Nat), cs[a]? = some u → cs[b]? = some v → u.ownBlock = some k → v.ownBlock = some k → a = b)
theorem ET.lt {wr lo g E} (h : ET wr lo g E) : g < wr.heap.size := by obtain ⟨cs, h1, _⟩ := h; exact (Array.getElem?_eq_some_iff.1 h1).1
theorem ET.ext {wr wr' lo g E} (h : ET wr lo g E) (he : Ext wr wr') : ET wr' lo g E := by
  have hl := h.lt
  obtain ⟨cs, h1, h2, h3, h4⟩ := h
  exact ⟨cs, (he.block g hl (fun f => f)).trans h1, h2, fun a v hv => ⟨(h3 a v hv).1.ext he, (h3 a v hv).2⟩, h4⟩
theorem ET.frozen {wr lo g E} (h : ET wr lo g E) (i : Nat) : wr.frozen? ⟨g, i, none⟩ = false := by
  obtain ⟨cs, h1, _⟩ := h
  unfold World.frozen?; rw [h1]; simp
theorem ET.get {wr lo g E} (h : ET wr lo g E) {a : Nat} (ha : a < 256) : ∃ A c, wr.cell? ⟨g, a, none⟩ = some (.slice A (E a).length c) ∧ Own wr 3 1 (.slice A (E a).length c) (E a).length (ints (E a)) ∧ (∀ k, (Value.slice A (E a).length c).ownBlock = some k → lo ≤ k) ∧ (Value.slice A (E a).length c).ownBlock ≠ some g := by
  obtain ⟨cs, h1, h2, h3, h4⟩ := h
  have hc : cs[a]? = some cs[a] := Array.getElem?_eq_getElem (by omega)
  obtain ⟨ho, hl⟩ := h3 a _ hc
  obtain ⟨A, c, hv, -, -⟩ := ho.form
  rw [hv] at hc ho hl
  exact ⟨A, c, by rw [cell_of_row wr g a cs 63 (0, 0) h1]; exact hc, ho, hl, own_ne ho h1 (by decide)⟩
def upd (E : Nat → List Nat) (a b : Nat) : Nat → List Nat := fun c => if c = a then E a ++ [b] else E c
theorem ET.put {wr w1 : World} {lo g : Nat} {E : Nat → List Nat} (h : ET wr lo g E) {a b : Nat} {v v' : Value} (hlo : lo ≤ wr.heap.size) (hv : wr.cell? ⟨g, a, none⟩ = some v) (ho : Own w1 3 1 v' ((E a).length + 1) (ints (E a) ++ [.int .i64 (b : Int)]))
    (hm : Mod (fun k => v.ownBlock = some k) wr w1) (hb : ∀ k, v'.ownBlock = some k → v.ownBlock = some k ∨ wr.heap.size ≤ k) : ET (w1.setCell ⟨g, a, none⟩ v') lo g (upd E a b) := by
  have hgl := h.lt
  obtain ⟨cs, h1, h2, h3, h4⟩ := h
  rw [cell_of_row wr g a cs 63 (0, 0) h1] at hv
  have ha : a < cs.size := (Array.getElem?_eq_some_iff.1 hv).1
  have hng : v.ownBlock ≠ some g := own_ne (h3 a v hv).1 h1 (by decide)
  have h1' : w1.heap[g]? = some (.cells cs 63 (0, 0)) := (hm.block g hgl hng).trans h1
  have hmod : Mod (fun k => k = g) w1 (w1.setCell ⟨g, a, none⟩ v') := (Mod.refl _ _).setCell _ _ (fun _ => rfl)
  refine ⟨cs.setIfInBounds a v', heap_setCell_at h1' v', by simpa using h2, fun c u hu => ?_, fun c d u1 u2 k hc hd hk1 hk2 => ?_⟩
  · by_cases hca : c = a
    · subst hca
      rw [Array.getElem?_setIfInBounds_self_of_lt ha] at hu
      obtain rfl := Option.some.inj hu
      refine ⟨?_, fun k hk => ?_⟩
      · have : upd E c b c = E c ++ [b] := by simp [upd]
        rw [this, List.length_append, ints_append]
        exact ho.mod hmod (fun k hk e => own_ne ho h1' (by decide) (e ▸ hk))
      · rcases hb k hk with h | h
        · exact (h3 c v hv).2 k h
        · omega
    · rw [Array.getElem?_setIfInBounds_ne (Ne.symm hca)] at hu
      have : upd E a b c = E c := by simp [upd, hca]
      rw [this]
      obtain ⟨ho2, hl2⟩ := h3 c u hu
      have ho3 : Own w1 3 1 u (E c).length (ints (E c)) := ho2.mod hm (fun k hk hvk => hca (h4 c a u v k hu hv hk hvk))
      exact ⟨ho3.mod hmod (fun k hk e => own_ne ho3 h1' (by decide) (e ▸ hk)), hl2⟩
  · by_cases hca : c = a
    · by_cases hda : d = a
      · rw [hca, hda]
      · subst hca
        rw [Array.getElem?_setIfInBounds_self_of_lt ha] at hc
        obtain rfl := Option.some.inj hc
        rw [Array.getElem?_setIfInBounds_ne (Ne.symm hda)] at hd
        rcases hb k hk1 with h | h
        · exact h4 c d v u2 k hv hd h hk2
        · have := (h3 d u2 hd).1.lt k hk2; omega
    · rw [Array.getElem?_setIfInBounds_ne (Ne.symm hca)] at hc
      by_cases hda : d = a
      · subst hda
        rw [Array.getElem?_setIfInBounds_self_of_lt ha] at hd
        obtain rfl := Option.some.inj hd
        rcases hb k hk2 with h | h
        · exact h4 c d u1 v k hc hv hk1 h
        · have := (h3 c u1 hc).1.lt k hk1; omega
      · rw [Array.getElem?_setIfInBounds_ne (Ne.symm hda)] at hd
        exact h4 c d u1 u2 k hc hd hk1 hk2

/-! Sums over the 256. -/
theorem sum_point (g g' : Nat → Nat) (a : Nat) (h : ∀ b, b ≠ a → g' b = g b) : ∀ n, a < n → ((List.range n).map g).sum + g' a = ((List.range n).map g').sum + g a := by
  intro n
  induction n with
  | zero => intro h; omega
  | succ n ih =>
    intro hn
    rw [List.range_succ, List.map_append, List.map_append, List.sum_append, List.sum_append]
    simp only [List.map_cons, List.map_nil, List.sum_cons, List.sum_nil, Nat.add_zero]
    by_cases ha : a = n
    · subst ha
      have : (List.range a).map g = (List.range a).map g' := List.map_congr_left fun b hb => (h b (by have := List.mem_range.1 hb; omega)).symm
      rw [this]
      omega
    · have := ih (by omega)
      have := h n (by omega)
      omega
theorem sum_mem (g : Nat → Nat) : ∀ n a, a < n → g a ≤ ((List.range n).map g).sum := by
  intro n
  induction n with
  | zero => intro a h; omega
  | succ n ih =>
    intro a h
    rw [List.range_succ, List.map_append, List.sum_append]
    simp only [List.map_cons, List.map_nil, List.sum_cons, List.sum_nil, Nat.add_zero]
    by_cases ha : a = n
    · subst ha; omega
    · have := ih a (by omega); omega
/-- The lengths of the lists of those that are not marked. -/
def sumE (E : Nat → List Nat) (f : Nat → Bool) : Nat := ((List.range 256).map fun a => if f a then 0 else (E a).length).sum
theorem sumE_upd (E : Nat → List Nat) (a b : Nat) (ha : a < 256) : sumE (upd E a b) (fun _ => false) = sumE E (fun _ => false) + 1 := by
  have := sum_point (fun c => (E c).length) (fun c => (upd E a b c).length) a (fun c hc => by simp [upd, hc]) 256 ha
  have e : (upd E a b a).length = (E a).length + 1 := by simp [upd]
  unfold sumE
  simp only [Bool.false_eq_true, if_false]
  omega
theorem sumE_mark (E : Nat → List Nat) (f : Nat → Bool) (a : Nat) (ha : a < 256) (hf : f a = false) : sumE E f = (E a).length + sumE E (fun c => if c = a then true else f c) := by
  have := sum_point (fun c => if f c then 0 else (E c).length) (fun c => if (if c = a then true else f c) then 0 else (E c).length) a (fun c hc => by simp [hc]) 256 ha
  simp only [if_true, hf, Bool.false_eq_true, if_false] at this
  show (List.map (fun c => if f c = true then 0 else (E c).length) (List.range 256)).sum = (E a).length + (List.map (fun c => if (if c = a then true else f c) = true then 0 else (E c).length) (List.range 256)).sum
  omega
theorem sumE_le (E : Nat → List Nat) (a : Nat) (ha : a < 256) : (E a).length ≤ sumE E (fun _ => false) := by
  have := sum_mem (fun c => (E c).length) 256 a ha
  unfold sumE
  simpa using this

/-- The search from a who: what was found, up to place i gone through. -/
structure Srch (E : Nat → List Nat) (R : Nat → Nat → Prop) (who : Nat) (f : Nat → Bool) (L : List Nat) (i B : Nat) : Prop where
  way : ∀ b ∈ L, R who b
  gone : ∀ j b, j < i → L[j]? = some b → b ≠ who ∧ f b = true
  first : ∀ b ∈ E who, b ∈ L
  next : ∀ a, f a = true → ∀ b ∈ E a, b ∈ L
  room : L.length + sumE E f ≤ B
  small : ∀ b ∈ L, b < 256
  le : i ≤ L.length
theorem Srch.skip {E R who f L i B b} (h : Srch E R who f L i B) (hb : L[i]? = some b) (hw : b ≠ who) (hf : f b = true) : Srch E R who f L (i + 1) B :=
  ⟨h.way, fun j c hj hc => by
    by_cases hji : j = i
    · subst hji; rw [hb] at hc; obtain rfl := Option.some.inj hc; exact ⟨hw, hf⟩
    · exact h.gone j c (by omega) hc, h.first, h.next, h.room, h.small, (List.getElem?_eq_some_iff.1 hb).1⟩
theorem Srch.grow {E R who f L i B b} (h : Srch E R who f L i B) (hb : L[i]? = some b) (hw : b ≠ who) (hf : f b = false) (hb2 : b < 256) (hR : ∀ c ∈ E b, R who c) (hs : ∀ c ∈ E b, c < 256) :
    Srch E R who (fun c => if c = b then true else f c) (L ++ E b) (i + 1) B := by
  have hil : i < L.length := (List.getElem?_eq_some_iff.1 hb).1
  refine ⟨fun c hc => ?_, fun j c hj hc => ?_, fun c hc => List.mem_append.2 (.inl (h.first c hc)), fun a ha c hc => ?_, ?_, fun c hc => ?_, by rw [List.length_append]; omega⟩
  · rcases List.mem_append.1 hc with hc | hc
    · exact h.way c hc
    · exact hR c hc
  · rw [List.getElem?_append_left (by omega)] at hc
    by_cases hji : j = i
    · subst hji; rw [hb] at hc; obtain rfl := Option.some.inj hc; exact ⟨hw, by simp⟩
    · obtain ⟨h1, h2⟩ := h.gone j c (by omega) hc
      exact ⟨h1, by simp [h2]⟩
  · by_cases hab : a = b
    · subst hab; exact List.mem_append.2 (.inr hc)
    · simp only [if_neg hab] at ha
      exact List.mem_append.2 (.inl (h.next a ha c hc))
  · have := sumE_mark E f b hb2 hf
    have := h.room
    rw [List.length_append]
    omega
  · rcases List.mem_append.1 hc with hc | hc
    · exact h.small c hc
    · exact hs c hc
theorem Ahead.less {H ws : List Lk} {a b : Int} {k k' : Nat} (h : Ahead H ws a k b) (hk : k ≤ k') : Ahead H ws a k' b := by
  obtain ⟨i, hi, r⟩ := h
  exact ⟨i, by omega, r⟩
theorem ahead_edge {H ws : List Lk} {a b : Int} : Ahead H ws a ws.length b ↔ Edge H ws a b := by
  constructor
  · rintro ⟨i, hi, x, y, r⟩; exact ⟨i, x, y, r⟩
  · rintro ⟨i, x, y, hx, r⟩; exact ⟨i, (List.getElem?_eq_some_iff.1 hx).1, x, y, hx, r⟩
theorem Edge.small {H ws : List Lk} {a b : Int} (hH : ∀ l ∈ H, mayB l = true) (hW : ∀ l ∈ ws, mayB l = true) (h : Edge H ws a b) : (0 ≤ a ∧ a < 256) ∧ 0 ≤ b ∧ b < 256 := by
  obtain ⟨i, x, y, hx, rfl, hy, -, rfl⟩ := h
  obtain ⟨x1, x2, -⟩ := (may_iff _).1 (hW x (List.mem_of_getElem? hx))
  have hym : mayB y = true := by
    rcases hy with hy | hy
    · exact hH y hy
    · exact hW y (List.mem_of_mem_take hy)
  obtain ⟨y1, y2, -⟩ := (may_iff _).1 hym
  exact ⟨⟨x1, x2⟩, y1, y2⟩
/-- The end: nothing leads back. -/
theorem Srch.none {H ws : List Lk} {E : Nat → List Nat} {who : Nat} {f : Nat → Bool} {L : List Nat} {B : Nat} (hH : ∀ l ∈ H, mayB l = true) (hW : ∀ l ∈ ws, mayB l = true) (hE : ∀ a b : Nat, b ∈ E a ↔ Edge H ws a b)
    (h : Srch E (fun a b => Way H ws a b) who f L L.length B) : ¬ Way H ws who who := by
  intro hw
  have hall : ∀ b ∈ L, b ≠ who ∧ f b = true := fun b hb => by
    obtain ⟨j, hj, rfl⟩ := List.mem_iff_getElem.1 hb
    exact h.gone j _ hj (List.getElem?_eq_getElem hj)
  have key : ∀ x y : Int, Way H ws x y → ∀ a : Nat, x = a → (∀ b ∈ E a, b ∈ L) → ∃ b ∈ L, y = (b : Int) := by
    intro x y hxy
    induction hxy with
    | one e =>
      rintro a rfl ha
      obtain ⟨-, h1, h2⟩ := e.small hH hW
      obtain ⟨b, rfl⟩ := Int.eq_ofNat_of_zero_le h1
      exact ⟨b, ha b ((hE a b).2 e), rfl⟩
    | cons e _ ih =>
      rintro a rfl ha
      obtain ⟨-, h1, h2⟩ := e.small hH hW
      obtain ⟨b, rfl⟩ := Int.eq_ofNat_of_zero_le h1
      have hbL := ha b ((hE a b).2 e)
      exact ih b rfl (h.next b (hall b hbL).2)
  obtain ⟨b, hb, he⟩ := key _ _ hw who rfl h.first
  exact (hall b hb).1 (by omega)
end Go.Proofs.Ytpjgfkdnjkfnfaa
