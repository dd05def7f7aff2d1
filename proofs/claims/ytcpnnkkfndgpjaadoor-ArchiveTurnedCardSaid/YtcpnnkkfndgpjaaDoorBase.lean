/- What every text here leans on: worlds that keep what was there but for some blocks; slices that a list owns; append onto them. Program independent. -/
import Derived.WalkKit
import Derived.WalkLawsBesides
import Derived.WalkSpells
import Derived.Lib.Hide
import Derived.BigQuiet
import Derived.BigGuardPart
import Derived.Deep.RegionLaw
import Derived.Deep.RegionHeld3
import Derived.Deep.DeepMust
import Derived.Deep.DeepFit
import Derived.Deep.LoopGhost
namespace Go.Proofs.YtcpnnkkfndgpjaaDoor
open Go.RowKit

/-- What was there is as it was, but for the blocks of S. -/
structure Mod (S : Nat → Prop) (w w' : World) : Prop where
  os : w'.os = w.os
  tape : w'.tape = w.tape
  output : w'.output = w.output
  size : w.heap.size ≤ w'.heap.size
  block : ∀ k, k < w.heap.size → ¬ S k → w'.heap[k]? = w.heap[k]?
/-- What was there is as it was. -/
def Ext (w w' : World) : Prop := Mod (fun _ => False) w w'

section
variable {S T : Nat → Prop} {a b c w w' : World}
theorem Mod.refl (S : Nat → Prop) (w : World) : Mod S w w := ⟨rfl, rfl, rfl, Nat.le_refl _, fun _ _ _ => rfl⟩
theorem Mod.trans (h : Mod S a b) (k : Mod T b c) (hT : ∀ i, i < a.heap.size → T i → S i) : Mod S a c :=
  ⟨k.os.trans h.os, k.tape.trans h.tape, k.output.trans h.output, Nat.le_trans h.size k.size,
    fun i hi hs => (k.block i (Nat.lt_of_lt_of_le hi h.size) (fun t => hs (hT i hi t))).trans (h.block i hi hs)⟩
theorem Mod.mono (h : Mod S a b) (hs : ∀ i, i < a.heap.size → S i → T i) : Mod T a b :=
  ⟨h.os, h.tape, h.output, h.size, fun i hi ht => h.block i hi (fun s => ht (hs i hi s))⟩
theorem Mod.then_ (h : Mod S a b) (k : Ext b c) : Mod S a c := h.trans k (fun _ _ f => f.elim)
theorem Mod.alloc (h : Mod S a b) (o : Obj) : Mod S a (b.alloc o) :=
  h.then_ ⟨rfl, rfl, rfl, by simp, fun k hk _ => Below.heap_alloc _ _ _ hk⟩
theorem Mod.drew (h : Mod S a b) : Mod S a b.drew := ⟨h.os, h.tape, h.output, h.size, h.block⟩
theorem Mod.drewN (h : Mod S a b) (n : Nat) : Mod S a (b.drewN n) := ⟨h.os, h.tape, h.output, h.size, h.block⟩
theorem Mod.setCell (h : Mod S a b) (p : Addr) (u : Value) (hp : p.block < a.heap.size → S p.block) : Mod S a (b.setCell p u) :=
  h.trans (T := fun k => k = p.block) ⟨rfl, rfl, rfl, by simp [World.setCell], fun k _ hk => Below.heap_setCell _ _ _ _ hk⟩ (fun i hi e => e ▸ hp (e ▸ hi))
theorem Mod.grown {row : Option Nat} (h : Mod S a b) (hg : b.grownBy c row) (hr : ∀ k, row = some k → k < a.heap.size → S k) : Mod S a c :=
  h.trans (T := fun k => some k = row) ⟨hg.os, hg.tape, hg.output, hg.size, fun k hk hne => hg.block k hk hne⟩ (fun i hi e => hr i e.symm hi)
theorem Mod.cell (h : Mod S a b) {p : Addr} (hp : p.block < a.heap.size) (hs : ¬ S p.block) : b.cell? p = a.cell? p := World.cell?_of_block (w := a) (h.block p.block hp hs)
theorem Mod.frozen (h : Mod S a b) {p : Addr} (hp : p.block < a.heap.size) (hs : ¬ S p.block) : b.frozen? p = a.frozen? p := World.frozen?_of_block (w := a) (h.block p.block hp hs)

theorem Ext.refl (w : World) : Ext w w := Mod.refl _ w
theorem Ext.trans (h : Ext a b) (k : Ext b c) : Ext a c := Mod.trans h k (fun _ _ f => f)
theorem Ext.alloc (h : Ext a b) (o : Obj) : Ext a (b.alloc o) := Mod.alloc h o
theorem Ext.drew (h : Ext a b) : Ext a b.drew := Mod.drew h
theorem Ext.drewN (h : Ext a b) (n : Nat) : Ext a (b.drewN n) := Mod.drewN h n
theorem Ext.setCell (h : Ext a b) (p : Addr) (u : Value) (hp : a.heap.size ≤ p.block) : Ext a (b.setCell p u) := Mod.setCell h p u (fun h => by omega)
theorem Ext.grown {row : Option Nat} (h : Ext a b) (hg : b.grownBy c row) (hr : ∀ k, row = some k → a.heap.size ≤ k) : Ext a c :=
  Mod.grown h hg (fun k e hk => by have := hr k e; omega)
theorem Ext.size (h : Ext a b) : a.heap.size ≤ b.heap.size := Mod.size h
theorem Ext.below (h : Ext a b) : Below a.heap.size a b := ⟨Mod.os h, Mod.tape h, Mod.output h, Mod.size h, fun k hk => Mod.block h k hk (fun f => f)⟩
theorem Ext.of_below (h : Below a.heap.size a b) : Ext a b := ⟨h.os, h.tape, h.output, h.size, fun k hk _ => h.block k hk⟩
theorem Ext.cell (h : Ext a b) {p : Addr} (hp : p.block < a.heap.size) : b.cell? p = a.cell? p := Mod.cell h hp (fun f => f)
/-- What the walk is given behind a call that only made memory. -/
theorem Ext.cells (h : Ext a b) : (∀ k o, k < a.heap.size → b.cell? ⟨k, o, none⟩ = a.cell? ⟨k, o, none⟩) ∧ (∀ k o, k < a.heap.size → b.frozen? ⟨k, o, none⟩ = a.frozen? ⟨k, o, none⟩) :=
  ⟨fun _ _ h' => Mod.cell h h' (fun f => f), fun _ _ h' => Mod.frozen h h' (fun f => f)⟩
end

/-- The cells of the block that was made last, further on. -/
theorem Ext.cell_new {w wr : World} {cs : Array Value} {e : TypeId} (h : Ext (w.alloc (.cells cs e)) wr) (i : Nat) : wr.cell? ⟨w.heap.size, i, none⟩ = cs[i]? := by
  rw [h.cell (by simp), cell_of_row _ _ i cs e (0, 0) (heap_alloc_new w _)]
theorem Ext.frozen_new {w wr : World} {cs : Array Value} {e : TypeId} (h : Ext (w.alloc (.cells cs e)) wr) (i : Nat) : wr.frozen? ⟨w.heap.size, i, none⟩ = false := by
  rw [h.cells.2 _ _ (by simp)]
  have := heap_alloc_new w (.cells cs e)
  unfold World.frozen?
  rw [this]
  simp
theorem Ext.lt_new {w wr : World} {o : Obj} (h : Ext (w.alloc o) wr) : w.heap.size < wr.heap.size := by
  have := h.size
  simp at this
  omega

/-- A slice value that owns a stretch of a block: nil, or n elements of 'size' cells each from offset off on, room for cap. -/
def Own (w : World) (e : TypeId) (size : Nat) (v : Value) (n : Nat) (xs : List Value) : Prop :=
  xs.length = n * size ∧
  ((v = .slice none 0 0 ∧ n = 0) ∨
   ∃ g off cap cur, v = .slice (some ⟨g, off, none⟩) n cap ∧ w.heap[g]? = some (.cells cur e (0, 0)) ∧ n ≤ cap ∧ cap ≤ maxLen ∧ off + cap * size ≤ cur.size ∧ (cur.toList.drop off).take (n * size) = xs)

section
variable {w w' : World} {e : TypeId} {size : Nat} {v : Value} {n : Nat} {xs : List Value}
theorem Own.nil (w : World) (e : TypeId) (size : Nat) : Own w e size (.slice none 0 0) 0 [] := ⟨by simp, .inl ⟨rfl, rfl⟩⟩
theorem Own.lt (h : Own w e size v n xs) : ∀ k, v.ownBlock = some k → k < w.heap.size := by
  intro k hk
  rcases h.2 with ⟨rfl, _⟩ | ⟨g, off, cap, cur, rfl, hg, _⟩
  · simp [Value.ownBlock] at hk
  · simp [Value.ownBlock] at hk
    subst hk
    exact (Array.getElem?_eq_some_iff.1 hg).1
theorem Own.kept (h : Own w e size v n xs) (hk : ∀ k, v.ownBlock = some k → w'.heap[k]? = w.heap[k]?) : Own w' e size v n xs := by
  refine ⟨h.1, ?_⟩
  rcases h.2 with hn | ⟨g, off, cap, cur, rfl, hg, rest⟩
  · exact .inl hn
  · exact .inr ⟨g, off, cap, cur, rfl, (hk g rfl).trans hg, rest⟩
theorem Own.mod {S : Nat → Prop} (h : Own w e size v n xs) (hm : Mod S w w') (hs : ∀ k, v.ownBlock = some k → ¬ S k) : Own w' e size v n xs :=
  h.kept fun k hk => hm.block k (h.lt k hk) (hs k hk)
theorem Own.ext (h : Own w e size v n xs) (hm : Ext w w') : Own w' e size v n xs := h.mod hm (fun _ _ f => f)
theorem Own.form (h : Own w e size v n xs) : ∃ A cap, v = .slice A n cap ∧ n ≤ cap ∧ (0 < n → ∃ g off, A = some ⟨g, off, none⟩ ∧ g < w.heap.size) := by
  rcases h.2 with ⟨rfl, rfl⟩ | ⟨g, off, cap, cur, rfl, hg, hn, _⟩
  · exact ⟨none, 0, rfl, Nat.le_refl _, fun h => absurd h (by omega)⟩
  · exact ⟨_, cap, rfl, hn, fun _ => ⟨g, off, rfl, (Array.getElem?_eq_some_iff.1 hg).1⟩⟩
theorem Own.cells (h : Own w e size v n xs) {g off cap m : Nat} (hv : v = .slice (some ⟨g, off, none⟩) m cap) : ∀ j u, xs[j]? = some u → w.cell? ⟨g, off + j, none⟩ = some u := by
  intro j u hu
  rcases h.2 with ⟨rfl, _⟩ | ⟨g', off', cap', cur, rfl, hg, _, _, hs, ht⟩
  · cases hv
  · injection hv with h1 h2 h3
    injection h1 with h1
    injection h1 with h1 h4
    subst h1 h4
    rw [cell_of_row w g' _ cur e (0, 0) hg]
    rw [← ht, List.getElem?_take] at hu
    split at hu
    · rw [List.getElem?_drop] at hu
      simpa using hu
    · cases hu
theorem Own.frozen (h : Own w e size v n xs) {g off cap m : Nat} (hv : v = .slice (some ⟨g, off, none⟩) m cap) (o : Nat) : w.frozen? ⟨g, o, none⟩ = false := by
  rcases h.2 with ⟨rfl, _⟩ | ⟨g', off', cap', cur, rfl, hg, _⟩
  · cases hv
  · injection hv with h1 h2 h3
    injection h1 with h1
    injection h1 with h1 h4
    subst h1 h4
    simp [World.frozen?, hg]
end

theorem add_off (g o j : Nat) : (⟨g, o, none⟩ : Addr).add j = ⟨g, o + j, none⟩ := by unfold Addr.add; split <;> simp_all

section
variable {P : Program} (w : World)
theorem run_append_own_any (t ty e : TypeId) (i : TypeInfo) (z : Value) (size bytes : Nat) (ht : P.underlying t = some (.slice e)) (hi : P.info? e = some i) (hz : i.zero = some z)
    (hsize : i.size = size) (hby : i.bytes = bytes) (hzs : z.cells.size = size) (hsz : 0 < size)
    (v : Value) (n : Nat) (xs : List Value) (hown : Own w e size v n xs)
    (A : Option Addr) (m c : Nat) (news : List Value) (hl : news.length = m * size) (hnews : 0 < m → ∃ ad, A = some ad ∧ ∀ j u, news[j]? = some u → w.cell? (ad.add j) = some u) (h1 : ∀ u ∈ news, u.oneCell' = true)
    (h63 : n + m ≤ maxLen) (hbytes : (n + m) * bytes ≤ 140737488355328) :
    ∃ v' w', (Builtin.append_ #[t, t] ty #[v, .slice A m c]).run P w = .ok v' w' ∧ Own w' e size v' (n + m) (xs ++ news) ∧ w.grownBy w' v.ownBlock ∧
      (v'.ownBlock = v.ownBlock ∨ v'.ownBlock = some w.heap.size) := by
  subst hsize
  subst hby
  have hsmall : n + m ≤ 9223372036854775807 := by simp only [maxLen] at h63; omega
  have hlen : (xs ++ news).length = (n + m) * i.size := by rw [List.length_append, hown.1, hl, Nat.add_mul]
  have grown : ∀ (old : Nat), old < n + m → ∀ (row : Option Nat),
      Own (w.drew.alloc (.cells (xs.toArray ++ news.toArray ++ Builtin.zeroCells z.cells (grownCap w (n + m) old e - (n + m))) e)) e i.size
        (.slice (some ⟨w.heap.size, 0, none⟩) (n + m) (grownCap w (n + m) old e)) (n + m) (xs ++ news) ∧
      w.grownBy (w.drew.alloc (.cells (xs.toArray ++ news.toArray ++ Builtin.zeroCells z.cells (grownCap w (n + m) old e - (n + m))) e)) row := by
    intro old ho row
    have hge := grownCap_ge w (n + m) old e
    have hcm : grownCap w (n + m) old e ≤ maxLen := grownCap_le_maxLen w (n + m) old e h63
    refine ⟨⟨hlen, .inr ⟨w.heap.size, 0, _, _, rfl, heap_alloc_new w.drew _, hge, hcm, ?_, ?_⟩⟩, ⟨rfl, rfl, rfl, by simp, fun k hk _ => Below.heap_alloc w.drew _ k hk⟩⟩
    · simp only [Array.size_append, List.size_toArray, size_zeroCells, hzs, hown.1, hl, ← Nat.add_mul, Nat.zero_add]
      exact Nat.mul_le_mul_right _ (by omega)
    · simp only [Array.toList_append, List.append_assoc, List.drop_zero]
      rw [← List.append_assoc, ← hlen]
      exact List.take_left
  rcases Nat.eq_zero_or_pos m with hm | hm
  · subst hm
    have hn : news = [] := List.eq_nil_of_length_eq_zero (by simpa using hl)
    subst hn
    refine ⟨v, w, ?_, by simpa using hown, World.grownBy.refl w _, .inl rfl⟩
    rcases hown.2 with ⟨rfl, rfl⟩ | ⟨g, off, cap, cur, rfl, hg, hnc, _⟩
    · cases A <;> simp [Builtin.append_, run_underlying ht, sizeOf, typeInfo, hi, Builtin.lenOf, Builtin.firstCells, loadCells, loadCellsFrom]
    · cases A <;> simp [Builtin.append_, run_underlying ht, sizeOf, typeInfo, hi, Builtin.lenOf, Builtin.firstCells, hnc, storeCells, loadCells, loadCellsFrom]
  · obtain ⟨ad, rfl, hnews'⟩ := hnews hm
    clear hnews
    have hnews := hnews'
    clear hnews'
    rcases hown.2 with ⟨rfl, rfl⟩ | ⟨g, off, cap, cur, rfl, hg, hnc, hcm, hcs, htake⟩
    · have hx : xs = [] := List.eq_nil_of_length_eq_zero (by simpa using hown.1)
      subst hx
      have hr := run_append_nil (P := P) w t ty e i z ht hi hz ad m c news hl hnews (by omega) (by omega) (by have hb := hbytes; simp only [Nat.zero_add] at hb; omega)
      have hgr := grown 0 (by omega) (Value.ownBlock (.slice none 0 0))
      simp only [Nat.zero_add, List.nil_append, Array.empty_append] at hgr ⊢
      exact ⟨_, _, hr, hgr.1, hgr.2, .inr rfl⟩
    · by_cases hroom : n + m ≤ cap
      · have hmul : (n + m) * i.size ≤ cap * i.size := Nat.mul_le_mul_right _ hroom
        have hadd := Nat.add_mul n m i.size
        have hfit : off + n * i.size + news.length ≤ cur.size := by rw [hl]; omega
        have hfc := run_firstCells_some (P := P) w i.size m ad m c news hl hnews
        have hst := run_storeCells_at P g (off + n * i.size) e news 0 cur w hg (by simpa using hfit) h1
        simp only [Nat.add_zero] at hst
        refine ⟨.slice (some ⟨g, off, none⟩) (n + m) cap, w.setRow g (cur.toList.take (off + n * i.size) ++ news ++ cur.toList.drop (off + n * i.size + news.length)).toArray, ?_, ⟨hlen, .inr ⟨g, off, cap, _, rfl, setRow_heap w g cur _ e _ hg, hroom, hcm, ?_, ?_⟩⟩, ⟨rfl, rfl, rfl, by simp, fun k _ hk => setRow_other w g k _ (fun e => hk (by simp [Value.ownBlock, e]))⟩, .inl rfl⟩
        · simp [Builtin.append_, run_underlying ht, sizeOf, typeInfo, hi, Builtin.lenOf, hroom, hfc, Addr.add_lit, hst]
        · simp only [List.size_toArray, List.length_append, List.length_take, List.length_drop, Array.length_toList]
          omega
        · have h3 : (cur.toList.take (off + n * i.size)).drop off = xs := by
            rw [List.drop_take, ← htake]
            congr 1
            omega
          have h4 : off ≤ (cur.toList.take (off + n * i.size)).length := by
            simp only [List.length_take, Array.length_toList]; omega
          simp only [List.append_assoc]
          rw [List.drop_append_of_le_length h4, h3, ← hlen, ← List.append_assoc]
          exact List.take_left
      · have hr := run_append_grow (P := P) w t ty e i z ht hi hz ⟨g, off, none⟩ n cap xs hown.1 (fun j u hu => by rw [add_off]; exact hown.cells rfl j u hu) ad m c news hl hnews (by omega) (by omega) (growslice_fits (by omega) hbytes)
        have hgr := grown cap (by omega) (Value.ownBlock (.slice (some ⟨g, off, none⟩) n cap))
        exact ⟨_, _, hr, hgr.1, hgr.2, .inr rfl⟩

/-- append where there is no room: a new block. -/
theorem run_append_new (t ty e : TypeId) (i : TypeInfo) (z : Value) (size bytes : Nat) (ht : P.underlying t = some (.slice e)) (hi : P.info? e = some i) (hz : i.zero = some z)
    (hsize : i.size = size) (hby : i.bytes = bytes) (hzs : z.cells.size = size)
    (B : Option Addr) (n cap : Nat) (xs : List Value) (hx : xs.length = n * size) (hcells : 0 < n → ∃ bd, B = some bd ∧ ∀ j u, xs[j]? = some u → w.cell? (bd.add j) = some u) (hnil : B = none → cap = 0)
    (A : Option Addr) (m c : Nat) (news : List Value) (hl : news.length = m * size) (hm : 0 < m) (hnews : ∃ ad, A = some ad ∧ ∀ j u, news[j]? = some u → w.cell? (ad.add j) = some u)
    (hgrow : cap < n + m) (h63 : n + m ≤ maxLen) (hbytes : (n + m) * bytes ≤ 140737488355328) :
    ∃ v' w', (Builtin.append_ #[t, t] ty #[.slice B n cap, .slice A m c]).run P w = .ok v' w' ∧ Own w' e size v' (n + m) (xs ++ news) ∧ Ext w w' ∧ v'.ownBlock = some w.heap.size := by
  subst hsize
  subst hby
  obtain ⟨ad, rfl, hnews⟩ := hnews
  have hsmall : n + m ≤ 9223372036854775807 := by simp only [maxLen] at h63; omega
  have hlen : (xs ++ news).length = (n + m) * i.size := by rw [List.length_append, hx, hl, Nat.add_mul]
  have grown : ∀ (old : Nat), old < n + m →
      Own (w.drew.alloc (.cells (xs.toArray ++ news.toArray ++ Builtin.zeroCells z.cells (grownCap w (n + m) old e - (n + m))) e)) e i.size
        (.slice (some ⟨w.heap.size, 0, none⟩) (n + m) (grownCap w (n + m) old e)) (n + m) (xs ++ news) := by
    intro old ho
    have hge := grownCap_ge w (n + m) old e
    have hcm : grownCap w (n + m) old e ≤ maxLen := grownCap_le_maxLen w (n + m) old e h63
    refine ⟨hlen, .inr ⟨w.heap.size, 0, _, _, rfl, heap_alloc_new w.drew _, hge, hcm, ?_, ?_⟩⟩
    · simp only [Array.size_append, List.size_toArray, size_zeroCells, hzs, hx, hl, ← Nat.add_mul, Nat.zero_add]
      exact Nat.mul_le_mul_right _ (by omega)
    · simp only [Array.toList_append, List.append_assoc, List.drop_zero]
      rw [← List.append_assoc, ← hlen]
      exact List.take_left
  have hext : ∀ o, Ext w (w.drew.alloc o) := fun o => ((Ext.refl w).drew).alloc o
  cases B with
  | none =>
    obtain rfl := hnil rfl
    have hn : n = 0 := by
      rcases Nat.eq_zero_or_pos n with h | h
      · exact h
      · obtain ⟨bd, h, _⟩ := hcells h; cases h
    subst hn
    have hx0 : xs = [] := List.eq_nil_of_length_eq_zero (by simpa using hx)
    subst hx0
    have hr := run_append_nil (P := P) w t ty e i z ht hi hz ad m c news hl hnews (by omega) (by omega) (by have hb := hbytes; simp only [Nat.zero_add] at hb; omega)
    have hgr := grown 0 (by omega)
    simp only [Nat.zero_add, List.nil_append, Array.empty_append] at hgr ⊢
    exact ⟨_, _, hr, hgr, hext _, rfl⟩
  | some bd =>
    have hcells' : ∀ j u, xs[j]? = some u → w.cell? (bd.add j) = some u := by
      intro j u hu
      rcases Nat.eq_zero_or_pos n with h | h
      · subst h
        have hx0 : xs = [] := List.eq_nil_of_length_eq_zero (by simpa using hx)
        subst hx0
        simp at hu
      · obtain ⟨bd', h', hc⟩ := hcells h
        injection h' with h'
        subst h'
        exact hc j u hu
    have hr := run_append_grow (P := P) w t ty e i z ht hi hz bd n cap xs hx hcells' ad m c news hl hnews (by omega) (by omega) (growslice_fits (by omega) hbytes)
    exact ⟨_, _, hr, grown cap (by omega), hext _, rfl⟩
theorem wp_append_new {o : Oper} {a : Act} {K : Act → World → Prop} {Q : Exit → Act → World → Prop} (s x : Operand) (t : TypeId)
    (ho : o.op = .call { callee := .builtin .append, args := #[s, x], argTypes := #[t, t] })
    (e : TypeId) (i : TypeInfo) (z : Value) (size bytes : Nat) (ht : P.underlying t = some (.slice e)) (hi : P.info? e = some i) (hz : i.zero = some z)
    (hsize : i.size = size) (hby : i.bytes = bytes) (hzs : z.cells.size = size)
    (B : Option Addr) (n cap : Nat) (xs : List Value) (hs : a.eval s = .slice B n cap) (hxl : xs.length = n * size) (hcells : 0 < n → ∃ bd, B = some bd ∧ ∀ j u, xs[j]? = some u → w.cell? (bd.add j) = some u) (hnil : B = none → cap = 0)
    (A : Option Addr) (m c : Nat) (news : List Value) (hx : a.eval x = .slice A m c) (hl : news.length = m * size) (hm : 0 < m) (hnews : ∃ ad, A = some ad ∧ ∀ j u, news[j]? = some u → w.cell? (ad.add j) = some u)
    (hgrow : cap < n + m) (h63 : n + m ≤ maxLen) (hbytes : (n + m) * bytes ≤ 140737488355328)
    (h : ∀ v' w', Own w' e size v' (n + m) (xs ++ news) → Ext w w' → v'.ownBlock = some w.heap.size → K (a.put o.dst v') w') : o.wp P a w K Q := by
  obtain ⟨v', w', hrun, h2, h3, h4⟩ := run_append_new (P := P) w t o.type e i z size bytes ht hi hz hsize hby hzs B n cap xs hxl hcells hnil A m c news hl hm hnews hgrow h63 hbytes
  unfold Oper.wp execOp
  simp only [ho, resolve, invoke, builtin, Sem.run_bind, Sem.run_pure, Result.andThen_ok, List.map_toArray, List.map_cons, List.map_nil, hs, hx, hrun]
  exact h v' w' h2 h3 h4
theorem wp_append_own_any {o : Oper} {a : Act} {K : Act → World → Prop} {Q : Exit → Act → World → Prop} (s x : Operand) (t : TypeId)
    (ho : o.op = .call { callee := .builtin .append, args := #[s, x], argTypes := #[t, t] })
    (e : TypeId) (i : TypeInfo) (z : Value) (size bytes : Nat) (ht : P.underlying t = some (.slice e)) (hi : P.info? e = some i) (hz : i.zero = some z)
    (hsize : i.size = size) (hby : i.bytes = bytes) (hzs : z.cells.size = size) (hsz : 0 < size)
    (v : Value) (n : Nat) (xs : List Value) (hs : a.eval s = v) (hown : Own w e size v n xs)
    (A : Option Addr) (m c : Nat) (news : List Value) (hx : a.eval x = .slice A m c) (hl : news.length = m * size) (hnews : 0 < m → ∃ ad, A = some ad ∧ ∀ j u, news[j]? = some u → w.cell? (ad.add j) = some u) (h1 : ∀ u ∈ news, u.oneCell' = true)
    (h63 : n + m ≤ maxLen) (hbytes : (n + m) * bytes ≤ 140737488355328)
    (h : ∀ v' w', Own w' e size v' (n + m) (xs ++ news) → w.grownBy w' v.ownBlock → (v'.ownBlock = v.ownBlock ∨ v'.ownBlock = some w.heap.size) → K (a.put o.dst v') w') : o.wp P a w K Q := by
  obtain ⟨v', w', hrun, h2, h3, h4⟩ := run_append_own_any (P := P) w t o.type e i z size bytes ht hi hz hsize hby hzs hsz v n xs hown A m c news hl hnews h1 h63 hbytes
  unfold Oper.wp execOp
  simp only [ho, resolve, invoke, builtin, Sem.run_bind, Sem.run_pure, Result.andThen_ok, List.map_toArray, List.map_cons, List.map_nil, hs, hx, hrun]
  exact h v' w' h2 h3 h4

theorem wpList_append_own_any {ops : Array Oper} {rest : List Oper} {o : Oper} {a : Act} {Q : Exit → Act → World → Prop} (hgd : o.guard = none) (s x : Operand) (t : TypeId)
    (ho : o.op = .call { callee := .builtin .append, args := #[s, x], argTypes := #[t, t] })
    (e : TypeId) (i : TypeInfo) (z : Value) (size bytes : Nat) (ht : P.underlying t = some (.slice e)) (hi : P.info? e = some i) (hz : i.zero = some z)
    (hsize : i.size = size) (hby : i.bytes = bytes) (hzs : z.cells.size = size) (hsz : 0 < size)
    (v : Value) (n : Nat) (xs : List Value) (hs : a.eval s = v) (hown : Own w e size v n xs)
    (A : Option Addr) (m c : Nat) (news : List Value) (hx : a.eval x = .slice A m c) (hl : news.length = m * size) (hnews : 0 < m → ∃ ad, A = some ad ∧ ∀ j u, news[j]? = some u → w.cell? (ad.add j) = some u) (h1 : ∀ u ∈ news, u.oneCell' = true)
    (h63 : n + m ≤ maxLen) (hbytes : (n + m) * bytes ≤ 140737488355328)
    (h : ∀ v' w', Own w' e size v' (n + m) (xs ++ news) → w.grownBy w' v.ownBlock → (v'.ownBlock = v.ownBlock ∨ v'.ownBlock = some w.heap.size) → wpList P ops Q rest (a.put o.dst v') w') : wpList P ops Q (o :: rest) a w :=
  wpList_plain hgd fun _ hK => wp_append_own_any w s x t ho e i z size bytes ht hi hz hsize hby hzs hsz v n xs hs hown A m c news hx hl hnews h1 h63 hbytes fun v' w' h2 h3 h4 => hK _ _ (h v' w' h2 h3 h4)

theorem step_append_own_any {ops : Array Oper} {o : Oper} {a : Act} {K : Act → World → Prop} {Q : Exit → Act → World → Prop} {E : Prop} (hgd : o.guard = none) (s x : Operand) (t : TypeId)
    (ho : o.op = .call { callee := .builtin .append, args := #[s, x], argTypes := #[t, t] })
    (e : TypeId) (i : TypeInfo) (z : Value) (size bytes : Nat) (ht : P.underlying t = some (.slice e)) (hi : P.info? e = some i) (hz : i.zero = some z)
    (hsize : i.size = size) (hby : i.bytes = bytes) (hzs : z.cells.size = size) (hsz : 0 < size)
    (v : Value) (n : Nat) (xs : List Value) (hs : a.eval s = v) (hown : Own w e size v n xs)
    (A : Option Addr) (m c : Nat) (news : List Value) (hx : a.eval x = .slice A m c) (hl : news.length = m * size) (hnews : 0 < m → ∃ ad, A = some ad ∧ ∀ j u, news[j]? = some u → w.cell? (ad.add j) = some u) (h1 : ∀ u ∈ news, u.oneCell' = true)
    (h63 : n + m ≤ maxLen) (hbytes : (n + m) * bytes ≤ 140737488355328)
    (h : ∀ v' w', Own w' e size v' (n + m) (xs ++ news) → w.grownBy w' v.ownBlock → (v'.ownBlock = v.ownBlock ∨ v'.ownBlock = some w.heap.size) → K (a.put o.dst v') w') :
    if Region.wanted o (yielded ops a.tmps) = true then Oper.wp P o a w K Q else E := by
  rw [if_pos (by simp [Region.wanted, hgd])]
  exact wp_append_own_any w s x t ho e i z size bytes ht hi hz hsize hby hzs hsz v n xs hs hown A m c news hx hl hnews h1 h63 hbytes h
end

/-! A region that draws its order, walked in ONE order that is given. An operation either yields its value in every world of S, or in whatever world (and may then be taken first), or it is the only one that may come up. S is asked behind each step till operation L has come up, and no more behind it. -/
section
variable {P : Program} {ops : Array Oper} {Q : Exit → Act → World → Prop} {S : World → Prop} {L : Nat}
def wpAnyE (P : Program) (ops : Array Oper) (Q : Exit → Act → World → Prop) (S : World → Prop) (L : Nat) : Nat → Array Bool → Act → World → Prop
  | 0, listed, a, w => Region.ready .any ops listed = [] ∧ Q .normal a w
  | fuel + 1, listed, a, w =>
    (Region.ready .any ops listed = [] → Q .normal a w) ∧
    ∀ i ∈ Region.ready .any ops listed, wpOp P ops Q i (fun a' w' => ((listed.setIfInBounds i true).getD L false = false → S w') ∧ wpAnyE P ops Q S L fuel (listed.setIfInBounds i true) a' w') a w
theorem wpAny_of_E : ∀ (fuel : Nat) (listed : Array Bool) (a : Act) (w : World), wpAnyE P ops Q S L fuel listed a w → wpAny P .any ops Q fuel listed a w
  | 0, _, _, _, h => h
  | fuel + 1, _, _, _, h => ⟨h.1, fun i hi => wpOp_mono (fun a' w' h' => wpAny_of_E fuel _ a' w' h'.2) (h.2 i hi)⟩
/-- Operation k waits for operation i, in at most n steps. -/
def waitsFor (ops : Array Oper) : Nat → Nat → Nat → Bool
  | 0, _, _ => false
  | n + 1, k, i => match ops[k]? with
    | none => false
    | some o => o.after.any fun e => Region.binds .any e && (e.on == i || waitsFor ops n e.on i)
/-- Whatever has come up, what it waits for has. -/
def Closed (ops : Array Oper) (listed : Array Bool) : Prop := ∀ k o, ops[k]? = some o → listed.getD k false = true → ∀ e ∈ o.after, Region.binds .any e = true → listed.getD e.on false = true
theorem Closed.start (ops : Array Oper) (n : Nat) : Closed ops (Array.replicate n false) := by
  intro k o _ h
  simp only [Array.getD_eq_getD_getElem?, Array.getElem?_replicate] at h
  split at h <;> simp at h
theorem Closed.step {listed : Array Bool} {j : Nat} (h : Closed ops listed) (hj : j ∈ Region.ready .any ops listed) : Closed ops (listed.setIfInBounds j true) := by
  intro k o ho hk e he hb
  obtain ⟨_, oj, hoj, hall⟩ := mem_ready.1 hj
  by_cases hkj : k = j
  · subst hkj
    rw [hoj] at ho
    obtain rfl := Option.some.inj ho
    exact getD_set_true (hall e he hb)
  · rw [getD_set_ne false (Ne.symm hkj)] at hk
    exact getD_set_true (h k o ho hk e he hb)
theorem waits_listed {listed : Array Bool} (h : Closed ops listed) : ∀ n k i, (∀ o, ops[k]? = some o → ∀ e ∈ o.after, Region.binds .any e = true → listed.getD e.on false = true) → waitsFor ops n k i = true → listed.getD i false = true := by
  intro n
  induction n with
  | zero => intro k i _ hw; simp [waitsFor] at hw
  | succ n ih =>
    intro k i hk hw
    unfold waitsFor at hw
    split at hw
    · cases hw
    · rename_i o ho
      simp only [Array.any_eq_true, Bool.and_eq_true, Bool.or_eq_true, beq_iff_eq] at hw
      obtain ⟨m, hm, hb, hw⟩ := hw
      have hl := hk o ho o.after[m] (Array.getElem_mem hm) hb
      rcases hw with hw | hw
      · rw [hw] at hl; exact hl
      · exact ih _ i (fun o' ho' e he hb' => h _ o' ho' hl e he hb') hw
theorem not_last {i j : Nat} {listed : Array Bool} (hw : waitsFor ops 2 L i = true) (hcl : Closed ops listed) (hj : j ∈ Region.ready .any ops listed) (hi : i ∈ Region.ready .any ops listed) : j ≠ L := by
  rintro rfl
  obtain ⟨_, o, ho, hall⟩ := mem_ready.1 hj
  obtain ⟨hun, oi, hoi, _⟩ := mem_ready.1 hi
  have := waits_listed hcl 2 j i (fun o' ho' => by rw [ho] at ho'; obtain rfl := Option.some.inj ho'; exact hall) hw
  rcases Nat.lt_or_ge i listed.size with h' | h'
  · simp [h'] at hun this; rw [hun] at this; cases this
  · simp [Array.getElem?_eq_none h'] at hun
/-- A take: ahead of L, from S; or behind L, from nothing. -/
theorem wpAnyE_first {T : World → Prop} {i : Nat} {oi : Oper} {v : Value} (hi : ops[i]? = some oi) (hsel : ∀ (j : Nat) (o : Oper) cs b, ops[j]? = some o → o.op ≠ .select cs b)
    (hQ : ∀ c a w, Q (.panic c) (a.put oi.dst v) w → Q (.panic c) a w) :
    ∀ (fuel : Nat) (listed : Array Bool) (a : Act) (w : World),
      (∀ j oj, ops[j]? = some oj → j ≠ i → listed.getD j true = false → (∀ e ∈ oj.after, Region.binds .any e = true → e.on ≠ i) → oi.apart ops oj = true) →
      i ∈ Region.ready .any ops listed → YieldsIf P ops T oi v a → Closed ops listed → T w →
      ((∀ w, T w) ∧ i ≠ L ∧ (listed.getD L false = false → S w) ∨ (∀ w, S w → T w) ∧ listed.getD L false = false ∧ i ≠ L ∧ (waitsFor ops 2 L i = true ∨ ops.size ≤ L) ∧ S w) →
      wpAnyE P ops Q S L fuel (listed.setIfInBounds i true) (a.put oi.dst v) w → wpAnyE P ops Q S L (fuel + 1) listed a w := by
  intro fuel
  induction fuel with
  | zero =>
    intro listed a w _ hr hy _ hT hph H
    refine ⟨fun h => (by rw [h] at hr; cases hr), fun j hj => ?_⟩
    by_cases hji : j = i
    · subst hji
      refine hy.wpOp hi hT ⟨fun hun => ?_, H⟩
      rcases hph with ⟨_, h, hS⟩ | ⟨_, _, _, _, hS⟩
      · exact hS (by rw [getD_set_ne false h] at hun; exact hun)
      · exact hS
    · have := ready_mono hj hji
      rw [H.1] at this
      cases this
  | succ fuel ih =>
    intro listed a w hfree hr hy hcl hT hph H
    refine ⟨fun h => (by rw [h] at hr; cases hr), fun j hj => ?_⟩
    by_cases hji : j = i
    · subst hji
      refine hy.wpOp hi hT ⟨fun hun => ?_, H⟩
      rcases hph with ⟨_, h, hS⟩ | ⟨_, _, _, _, hS⟩
      · exact hS (by rw [getD_set_ne false h] at hun; exact hun)
      · exact hS
    · have h1 := H.2 j (ready_mono hj hji)
      obtain ⟨hjun, oj, hoj, hall⟩ := mem_ready.1 hj
      have hnot : ∀ e ∈ oj.after, Region.binds .any e = true → e.on ≠ i := fun e he hb heq => by
        have h1 := hall e he hb
        have h0 := (mem_ready.1 hr).1
        rw [heq] at h1
        rcases Nat.lt_or_ge i listed.size with h' | h'
        · simp [h'] at h0 h1; rw [h0] at h1; cases h1
        · simp [Array.getElem?_eq_none h'] at h1
      have h2 := wpOp_putIf hoj (hfree j oj hoj hji hjun hnot) (fun cs b => hsel i oi cs b hi) (fun cs b => hsel j oj cs b hoj) hQ hy h1
      have hfree' : ∀ k ok, ops[k]? = some ok → k ≠ i → (listed.setIfInBounds j true).getD k true = false →
          (∀ e ∈ ok.after, Region.binds .any e = true → e.on ≠ i) → oi.apart ops ok = true := fun k ok hk hki hun hno => by
        refine hfree k ok hk hki ?_ hno
        by_cases hjk : j = k
        · subst hjk; exact hjun
        · rw [getD_set_ne true hjk] at hun; exact hun
      rcases hph with ⟨hall', hiL, hS⟩ | ⟨hST, hun, hiL, hwait, hS⟩
      · have hfl : ((listed.setIfInBounds i true).setIfInBounds j true).getD L false = (listed.setIfInBounds j true).getD L false := by rw [Array.setIfInBounds_comm _ _ (Ne.symm hji), getD_set_ne false hiL]
        refine wpOp_mono (fun a' w' h3 => ⟨fun hun => h3.2.1 (hfl.trans hun), ih (listed.setIfInBounds j true) a' w' hfree' (ready_mono hr (Ne.symm hji)) h3.1 (hcl.step hj) (hall' _) (.inl ⟨hall', hiL, fun hun => h3.2.1 (hfl.trans hun)⟩) ?_⟩) h2
        rw [Array.setIfInBounds_comm _ _ hji]
        exact h3.2.2
      · have hjL : j ≠ L := by
          rcases hwait with h | h
          · exact not_last h hcl hj hr
          · have := (Array.getElem?_eq_some_iff.1 hoj).1
            omega
        have hunj : (listed.setIfInBounds j true).getD L false = false := by rw [getD_set_ne false hjL]; exact hun
        have hunij : ((listed.setIfInBounds i true).setIfInBounds j true).getD L false = false := by rw [getD_set_ne false hjL, getD_set_ne false hiL]; exact hun
        refine wpOp_mono (fun a' w' h3 => ⟨fun _ => h3.2.1 hunij, ih (listed.setIfInBounds j true) a' w' hfree' (ready_mono hr (Ne.symm hji)) h3.1 (hcl.step hj) (hST _ (h3.2.1 hunij)) (.inr ⟨hST, hunj, hiL, hwait, h3.2.1 hunij⟩) ?_⟩) h2
        rw [Array.setIfInBounds_comm _ _ hji]
        exact h3.2.2

/-- The kinds of a plan's steps: 0 taken from S, 1 carried out, 2 carried out: it is L; behind L: 3 taken from nothing, 4 carried out. -/
def wpLin (P : Program) (ops : Array Oper) (Q : Exit → Act → World → Prop) (S : World → Prop) : List (Oper × Nat) → Act → World → Prop
  | [], a, w => Q .normal a w
  | (o, 0) :: rest, a, w => ∃ v, YieldsIf P ops S o v a ∧ wpLin P ops Q S rest (a.put o.dst v) w
  | (o, 1) :: rest, a, w => ∀ K, (∀ a w, S w → wpLin P ops Q S rest a w → K a w) → if Region.wanted o (yielded ops a.tmps) = true then Oper.wp P o a w K Q else K (a.put o.dst undef) w
  | (o, 3) :: rest, a, w => ∃ v, YieldsIf P ops (fun _ => True) o v a ∧ wpLin P ops Q S rest (a.put o.dst v) w
  | (o, _) :: rest, a, w => ∀ K, (∀ a w, wpLin P ops Q S rest a w → K a w) → if Region.wanted o (yielded ops a.tmps) = true then Oper.wp P o a w K Q else K (a.put o.dst undef) w
def planOk (ops : Array Oper) (L : Nat) : List (Nat × Nat) → Array Bool → Bool
  | [], listed => (Region.ready .any ops listed).isEmpty
  | (i, 0) :: rest, listed => Region.free .any ops listed i && (Region.ready .any ops listed).contains i && !listed.getD L false && !(i == L) && (waitsFor ops 2 L i || decide (ops.size ≤ L)) && planOk ops L rest (listed.setIfInBounds i true)
  | (i, 1) :: rest, listed => Region.ready .any ops listed == [i] && !listed.getD L false && planOk ops L rest (listed.setIfInBounds i true)
  | (i, 3) :: rest, listed => Region.free .any ops listed i && (Region.ready .any ops listed).contains i && !(i == L) && planOk ops L rest (listed.setIfInBounds i true)
  | (i, _) :: rest, listed => Region.ready .any ops listed == [i] && (listed.setIfInBounds i true).getD L false && planOk ops L rest (listed.setIfInBounds i true)
def planOps (ops : Array Oper) (plan : List (Nat × Nat)) : Option (List (Oper × Nat)) := plan.mapM fun (i, b) => (ops[i]?).map fun o => (o, b)
theorem lin_any (hs : Region.noSelect ops = true) (hQ : ∀ c a (d : Tmp) v w, Q (.panic c) (Act.put a (some d) v) w → Q (.panic c) a w) :
    ∀ (plan : List (Nat × Nat)) (l : List (Oper × Nat)) (listed : Array Bool) (fuel : Nat) (a : Act) (w : World), planOk ops L plan listed = true → planOps ops plan = some l → plan.length ≤ fuel → Closed ops listed →
      (listed.getD L false = false → S w) → wpLin P ops Q S l a w → wpAnyE P ops Q S L fuel listed a w := by
  intro plan
  induction plan with
  | nil =>
    intro l listed fuel a w hp hl _ _ _ h
    simp [planOps] at hl
    subst hl
    have hr : Region.ready .any ops listed = [] := by simpa [planOk] using hp
    cases fuel with
    | zero => exact ⟨hr, h⟩
    | succ fuel => exact ⟨fun _ => h, by rw [hr]; simp⟩
  | cons x plan ih =>
    intro l listed fuel a w hp hl hf hcl hS h
    obtain ⟨i, b⟩ := x
    simp only [planOps, List.mapM_cons, Option.bind_eq_bind, Option.bind_eq_some_iff, Option.map_eq_some_iff, Option.pure_def, Option.some.injEq] at hl
    obtain ⟨⟨o, b'⟩, ⟨o', ho, heq⟩, l', hl', rfl⟩ := hl
    simp only [Prod.mk.injEq] at heq
    obtain ⟨rfl, rfl⟩ := heq
    obtain ⟨fuel, rfl⟩ : ∃ f, fuel = f + 1 := ⟨fuel - 1, by simp at hf; omega⟩
    have hf' : plan.length ≤ fuel := by simpa using hf
    have hrun : ∀ (hr : Region.ready .any ops listed = [i]) (hp' : planOk ops L plan (listed.setIfInBounds i true) = true)
        (h' : ∀ K, (∀ a w, ((listed.setIfInBounds i true).getD L false = false → S w) → wpLin P ops Q S l' a w → K a w) → if Region.wanted o' (yielded ops a.tmps) = true then Oper.wp P o' a w K Q else K (a.put o'.dst undef) w),
        wpAnyE P ops Q S L (fuel + 1) listed a w := by
      intro hr hp' h'
      refine ⟨fun h0 => absurd (hr ▸ h0) (by simp), fun j hj => ?_⟩
      rw [hr] at hj
      obtain rfl : j = i := by simpa using hj
      exact wpOp_step ho (fun K hK => h' K (fun a w hs hn => hK a w ⟨hs, ih l' _ fuel a w hp' hl' hf' (hcl.step (by rw [hr]; simp)) hs hn⟩))
    rcases b with _ | _ | _ | _ | b
    · simp only [planOk, Bool.and_eq_true, Bool.not_eq_true', Bool.or_eq_true, decide_eq_true_eq, beq_eq_false_iff_ne] at hp
      obtain ⟨⟨⟨⟨⟨h1, h2⟩, h3⟩, h4⟩, h5⟩, h6⟩ := hp
      obtain ⟨v, hy, h⟩ := h
      exact wpAnyE_first ho (Region.noSelect_spec hs) (fun c a w => by cases hd : o'.dst <;> first | exact id | exact hQ c a _ _ w) fuel listed a w (Region.free_spec ho h1) (by simpa using h2) hy hcl (hS h3) (.inr ⟨fun _ h => h, h3, h4, h5, hS h3⟩)
        (ih l' _ fuel _ w h6 hl' hf' (hcl.step (by simpa using h2)) (fun _ => hS h3) h)
    · replace hp : (Region.ready .any ops listed == [i] && !listed.getD L false && planOk ops L plan (listed.setIfInBounds i true)) = true := hp
      simp only [Bool.and_eq_true, beq_iff_eq, Bool.not_eq_true'] at hp
      refine ⟨fun h0 => absurd (hp.1.1 ▸ h0) (by simp), fun j hj => ?_⟩
      rw [hp.1.1] at hj
      obtain rfl : j = i := by simpa using hj
      exact wpOp_step ho (fun K hK => h K (fun a w hs hn => hK a w ⟨fun _ => hs, ih l' _ fuel a w hp.2 hl' hf' (hcl.step (by rw [hp.1.1]; simp)) (fun _ => hs) hn⟩))
    · replace hp : (Region.ready .any ops listed == [i] && (listed.setIfInBounds i true).getD L false && planOk ops L plan (listed.setIfInBounds i true)) = true := hp
      simp only [Bool.and_eq_true, beq_iff_eq] at hp
      exact hrun hp.1.1 hp.2 (fun K hK => h K (fun a w hn => hK a w (fun hun => by rw [hp.1.2] at hun; cases hun) hn))
    · replace hp : (Region.free .any ops listed i && (Region.ready .any ops listed).contains i && !(i == L) && planOk ops L plan (listed.setIfInBounds i true)) = true := hp
      simp only [Bool.and_eq_true, Bool.not_eq_true', beq_eq_false_iff_ne] at hp
      obtain ⟨⟨⟨h1, h2⟩, h3⟩, h6⟩ := hp
      obtain ⟨v, hy, h⟩ := h
      exact wpAnyE_first ho (Region.noSelect_spec hs) (fun c a w => by cases hd : o'.dst <;> first | exact id | exact hQ c a _ _ w) fuel listed a w (Region.free_spec ho h1) (by simpa using h2) hy hcl trivial (.inl ⟨fun _ => trivial, h3, hS⟩)
        (ih l' _ fuel _ w h6 hl' hf' (hcl.step (by simpa using h2)) (fun hun => hS (by rw [getD_set_ne false h3] at hun; exact hun)) h)
    · replace hp : (Region.ready .any ops listed == [i] && (listed.setIfInBounds i true).getD L false && planOk ops L plan (listed.setIfInBounds i true)) = true := hp
      simp only [Bool.and_eq_true, beq_iff_eq] at hp
      exact hrun hp.1.1 hp.2 (fun K hK => h K (fun a w hn => hK a w (fun hun => by rw [hp.1.2] at hun; cases hun) hn))
theorem region_lin {id : Nat} {a : Act} {w : World} (S : World → Prop) (L : Nat) (plan : List (Nat × Nat)) (l : List (Oper × Nat)) (hm : P.follows .mixedOrders = true) (hs : (Region.noSelect ops && planOk ops L plan (Array.replicate ops.size false) && decide (plan.length ≤ ops.size)) = true)
    (hl : planOps ops plan = some l) (hQ : ∀ c a (d : Tmp) v w, Q (.panic c) (Act.put a (some d) v) w → Q (.panic c) a w) (hS : S w.drew) (h : ∀ wd, S wd → Ext w wd → wpLin P ops Q S l a wd) : (Code.region id ops true).wp P Q a w := by
  simp only [Bool.and_eq_true, decide_eq_true_eq] at hs
  exact wp_region_any hm (wpAny_of_E _ _ _ _ (lin_any hs.1.1 hQ plan l _ _ a _ hs.1.2 hl hs.2 (Closed.start _ _) (fun _ => hS) (h _ hS (Ext.refl _).drew)))
theorem lin_nil {a : Act} {w : World} (h : Q .normal a w) : wpLin P ops Q S [] a w := h
theorem lin_take {a : Act} {w : World} {o : Oper} {rest : List (Oper × Nat)} (v : Value) (hw : Region.wanted o (yielded ops a.tmps) = true) (hy : ∀ w, S w → (execOp a.eval o).run P w = .ok (.value v) w)
    (h : wpLin P ops Q S rest (a.put o.dst v) w) : wpLin P ops Q S ((o, 0) :: rest) a w := ⟨v, .inl ⟨hw, hy⟩, h⟩
theorem lin_skip {a : Act} {w : World} {o : Oper} {rest : List (Oper × Nat)} (hw : Region.wanted o (yielded ops a.tmps) = false)
    (h : wpLin P ops Q S rest (a.put o.dst undef) w) : wpLin P ops Q S ((o, 0) :: rest) a w := ⟨undef, .inr ⟨hw, rfl⟩, h⟩
theorem lin_take3 {a : Act} {w : World} {o : Oper} {rest : List (Oper × Nat)} (v : Value) (hw : Region.wanted o (yielded ops a.tmps) = true) (hy : ∀ w, True → (execOp a.eval o).run P w = .ok (.value v) w)
    (h : wpLin P ops Q S rest (a.put o.dst v) w) : wpLin P ops Q S ((o, 3) :: rest) a w := ⟨v, .inl ⟨hw, hy⟩, h⟩
theorem lin_pass {a : Act} {w : World} {o : Oper} {rest : List (Oper × Nat)} (hw : Region.wanted o (yielded ops a.tmps) = false) (hS : S w)
    (h : wpLin P ops Q S rest (a.put o.dst undef) w) : wpLin P ops Q S ((o, 1) :: rest) a w := fun K hK => by
  rw [if_neg (by simp [hw])]; exact hK _ _ hS h
/-- The way on from an operation that was carried out. -/
def On (S : World → Prop) (next : Act → World → Prop) (K : Act → World → Prop) : Prop := ∀ a w, S w → next a w → K a w
theorem lin_run {a : Act} {w : World} {o : Oper} {rest : List (Oper × Nat)} (hw : Region.wanted o (yielded ops a.tmps) = true)
    (h : ∀ K, On S (wpLin P ops Q S rest) K → Oper.wp P o a w K Q) : wpLin P ops Q S ((o, 1) :: rest) a w := fun K hK => by
  rw [if_pos hw]; exact h K (fun a w hs hn => hK a w hs hn)
theorem lin_bar {a : Act} {w : World} {o : Oper} {rest : List (Oper × Nat)} (hw : Region.wanted o (yielded ops a.tmps) = true)
    (h : ∀ K, On (fun _ => True) (wpLin P ops Q S rest) K → Oper.wp P o a w K Q) : wpLin P ops Q S ((o, 2) :: rest) a w := fun K hK => by
  rw [if_pos hw]; exact h K (fun a w _ hn => hK a w hn)
theorem lin_run4 {a : Act} {w : World} {o : Oper} {rest : List (Oper × Nat)} (hw : Region.wanted o (yielded ops a.tmps) = true)
    (h : ∀ K, On (fun _ => True) (wpLin P ops Q S rest) K → Oper.wp P o a w K Q) : wpLin P ops Q S ((o, 4) :: rest) a w := fun K hK => by
  rw [if_pos hw]; exact h K (fun a w _ hn => hK a w hn)
theorem lin_last {a : Act} {w : World} {o : Oper} (hw : Region.wanted o (yielded ops a.tmps) = true)
    (h : ∀ K, On (fun _ => True) (Q .normal) K → Oper.wp P o a w K Q) : wpLin P ops Q S [(o, 2)] a w := fun K hK => by
  rw [if_pos hw]; exact h K (fun a w _ hn => hK a w hn)
end
end Go.Proofs.YtcpnnkkfndgpjaaDoor
