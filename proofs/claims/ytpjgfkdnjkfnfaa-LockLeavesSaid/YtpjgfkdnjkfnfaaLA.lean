/- What a leaving leaves, in plain lists; a row of bools; a slice of bytes. -/
import Derived.Test.YtpjgfkdnjkfnfaaZ
namespace Go.Proofs.Ytpjgfkdnjkfnfaa
open Go.ChangeShapes Go.WideShapes Go.ChangeAt Go.RowKit Go.Joins Go.Deep

theorem onF_shape (W : List Lk) : ∀ s : List Lk × List Lk × List Lk, ∃ T, (W.foldl onStep s).1 = s.1 ++ T ∧ (W.foldl onStep s).2.2 = s.2.2 ++ T ∧ ∀ l ∈ T, l ∈ W := by
  induction W with
  | nil => intro s; exact ⟨[], by simp, by simp, by simp⟩
  | cons x W ih =>
    rintro ⟨H, S, T⟩
    simp only [List.foldl_cons]
    by_cases hm : (meetsB x H || meetsB x S) = true
    · obtain ⟨T', h1, h2, h3⟩ := ih (onStep (H, S, T) x)
      refine ⟨T', ?_, ?_, fun l hl => List.mem_cons_of_mem _ (h3 l hl)⟩
      · rw [h1]; simp [onStep, hm]
      · rw [h2]; simp [onStep, hm]
    · obtain ⟨T', h1, h2, h3⟩ := ih (onStep (H, S, T) x)
      refine ⟨x :: T', ?_, ?_, fun l hl => ?_⟩
      · rw [h1]; simp only [onStep, hm]; simp
      · rw [h2]; simp only [onStep, hm]; simp
      · rcases List.mem_cons.1 hl with rfl | hl
        · exact List.mem_cons_self ..
        · exact List.mem_cons_of_mem _ (h3 l hl)
theorem leaveF_shape (who : Int) (H W : List Lk) : (leaveF who H W).1 = others who H ++ (leaveF who H W).2.2 ∧ ∀ l ∈ (leaveF who H W).2.2, l ∈ others who W := by
  obtain ⟨T, h1, h2, h3⟩ := onF_shape (others who W) (others who H, [], [])
  have e2 : (leaveF who H W).2.2 = T := by simpa [leaveF, onF] using h2
  have e1 : (leaveF who H W).1 = others who H ++ T := by simpa [leaveF, onF] using h1
  rw [e1, e2]
  exact ⟨rfl, h3⟩
theorem others_who {who : Int} {ls : List Lk} {l : Lk} (h : l ∈ others who ls) : l ∈ ls ∧ l.who ≠ who := by
  have := List.mem_filter.1 h
  exact ⟨this.1, by simpa using this.2⟩
/-- Nobody is left of the one who left, and nobody is new. -/
theorem Whos.left {p H W} (h : Whos p H W) (who : Int) : Whos (fun x => p x ∧ x ≠ who) (leaveF who H W).1 (leaveF who H W).2.1 := by
  refine Whos.on ⟨fun l hl => ?_, fun l hl => ?_⟩
  · obtain ⟨h1, h2⟩ := others_who hl
    exact ⟨h.1 l h1, h2⟩
  · obtain ⟨h1, h2⟩ := others_who hl
    exact ⟨h.2 l h1, h2⟩
def mineN (who : Int) (ls : List Lk) : Nat := ls.countP (fun l => decide (l.who = who))
theorem mine_len (who : Int) (ls : List Lk) : (others who ls).length + mineN who ls = ls.length := by
  unfold others mineN
  rw [← List.countP_eq_length_filter]
  have := List.length_eq_countP_add_countP (fun l : Lk => decide (l.who = who)) (l := ls)
  rw [this]
  have e : ls.countP (fun l : Lk => !decide (l.who = who)) = ls.countP (fun l : Lk => decide ¬(decide (l.who = who) = true)) := by
    congr 1; funext l; by_cases h : l.who = who <;> simp [h]
  omega
theorem leave_sum (who : Int) (H W : List Lk) : (leaveF who H W).2.1.length + (leaveF who H W).2.2.length + mineN who W = W.length := by
  have h1 := (onF_len (others who W) (others who H, [], [])).2
  have h2 := mine_len who W
  have e1 : (leaveF who H W).2.1 = ((others who W).foldl onStep (others who H, [], [])).2.1 := rfl
  have e2 : (leaveF who H W).2.2 = ((others who W).foldl onStep (others who H, [], [])).2.2 := rfl
  rw [e1, e2]
  simp at h1
  omega
theorem mineN_take {who : Int} {ls : List Lk} {k : Nat} {x : Lk} (hx : ls[k]? = some x) : mineN who (ls.take (k + 1)) = mineN who (ls.take k) + (if x.who = who then 1 else 0) := by
  have hk : k < ls.length := (List.getElem?_eq_some_iff.1 hx).1
  have he : ls[k] = x := (List.getElem?_eq_some_iff.1 hx).2
  unfold mineN
  rw [List.take_succ_eq_append_getElem hk, List.countP_append, he]
  by_cases h : x.who = who <;> simp [h]

/-- A row of n bools at block g. -/
def BR (w : World) (g n : Nat) (f : Nat → Bool) : Prop := ∃ cs : Array Value, w.heap[g]? = some (.cells cs 4 (0, 0)) ∧ cs.size = n ∧ ∀ i, i < n → cs[i]? = some (.bool (f i))
section
variable {w w' : World} {g n : Nat} {f : Nat → Bool}
theorem BR.lt (h : BR w g n f) : g < w.heap.size := by obtain ⟨cs, h1, _⟩ := h; exact (Array.getElem?_eq_some_iff.1 h1).1
theorem BR.made (w : World) (n : Nat) : BR (w.alloc (.cells (Array.replicate n (.bool false)) 4)) w.heap.size n (fun _ => false) :=
  ⟨_, heap_alloc_new w _, by simp, fun i hi => by simp [hi]⟩
theorem BR.cell (h : BR w g n f) (i : Nat) (hi : i < n) : w.cell? ⟨g, i, none⟩ = some (.bool (f i)) := by
  obtain ⟨cs, h1, _, h3⟩ := h
  rw [cell_of_row w g i cs 4 (0, 0) h1]; exact h3 i hi
theorem BR.frozen (h : BR w g n f) (i : Nat) : w.frozen? ⟨g, i, none⟩ = false := by
  obtain ⟨cs, h1, _⟩ := h
  unfold World.frozen?; rw [h1]; simp
theorem BR.mod {S} (h : BR w g n f) (hm : Mod S w w') (hs : ¬ S g) : BR w' g n f := by
  have hlt := h.lt
  obtain ⟨cs, h1, h2⟩ := h
  exact ⟨cs, (hm.block g hlt hs).trans h1, h2⟩
theorem BR.ext (h : BR w g n f) (hm : Ext w w') : BR w' g n f := h.mod hm (fun f => f)
theorem BR.set (h : BR w g n f) (i : Nat) : BR (w.setCell ⟨g, i, none⟩ (.bool true)) g n (fun j => if j = i then true else f j) := by
  obtain ⟨cs, h1, h2, h3⟩ := h
  refine ⟨cs.setIfInBounds i (.bool true), heap_setCell_at h1 _, by simpa using h2, fun j hj => ?_⟩
  by_cases hji : j = i
  · subst hji
    simp [h2, hj]
  · rw [Array.getElem?_setIfInBounds_ne (Ne.symm hji), h3 j hj]
    simp [hji]
theorem BR.apart (h : BR w g n f) {size m : Nat} {v : Value} {xs : List Value} (ho : Own w 29 size v m xs) : v.ownBlock ≠ some g := by
  obtain ⟨cs, h1, _⟩ := h
  exact own_ne ho h1 (by decide)
end

/-- A slice of bytes. -/
def BySl (w : World) (A : Option Addr) (n : Nat) (xs : List Nat) : Prop :=
  n = xs.length ∧ (0 < n → ∃ b off, A = some ⟨b, off, none⟩ ∧ b < w.heap.size ∧ ∀ (k x : Nat), xs[k]? = some x → x < 256 ∧ w.cell? ⟨b, off + k, none⟩ = some (.int .u8 (x : Int)))
theorem BySl.ext {w w' : World} {A n xs} (h : BySl w A n xs) (he : Ext w w') : BySl w' A n xs := by
  refine ⟨h.1, fun hn => ?_⟩
  obtain ⟨b, off, rfl, hb, hc⟩ := h.2 hn
  refine ⟨b, off, rfl, Nat.lt_of_lt_of_le hb he.size, fun k l hl => ?_⟩
  obtain ⟨h0, h1⟩ := hc k l hl
  exact ⟨h0, (he.cell hb).trans h1⟩
section
variable {H : Type} {enc : TypeId × Value → H} {w : World} {base : Nat} {spare : Nat → Bool} {held : Bool}
theorem open_bytes {fuel : Nat} {cs : List Value} {x : DataW H × List MemPlace} (h : DataW.trod enc Try.prog w base spare held fuel 51 cs = some x) : ∃ A n c ls, cs = [.slice A n c] ∧ n ≤ maxLen ∧ BySl w A n ls := by
  rcases open_slice Try.underlying51 h with ⟨rfl, _⟩ | ⟨a, len, cap, m, n, D, Pl, rfl, _, hl, hm, hmm, _, hi⟩
  · exact ⟨none, 0, 0, [], rfl, Nat.zero_le _, rfl, fun h => absurd h (by omega)⟩
  · have hC : Try.prog.cellsOf 5 = 1 := by kernel_rfl
    simp only [hC] at hi
    have hlm : len ≤ m := by rw [hmm]; split <;> omega
    have key : ∀ i, i < len → ∃ l : Nat, l < 256 ∧ w.cell? ((a.add (i * 1)).add 0) = some (.int .u8 (l : Int)) := by
      intro i hil
      obtain ⟨cs', hc, ht⟩ := hi i (by omega)
      obtain ⟨v, e, -, hw⟩ := DataW.trod_int Try.underlying5 ht
      subst e
      simp only [Lit.wf, Bool.and_eq_true, decide_eq_true_eq] at hw
      obtain ⟨_, _, hcell⟩ := World.cells?_some hc
      have h0 := hcell 0 (by omega)
      obtain ⟨l, rfl⟩ := Int.eq_ofNat_of_zero_le hw.1
      refine ⟨l, by have h2 : (l : Int) ≤ 255 := hw.2; omega, ?_⟩
      simpa using h0
    obtain ⟨F, hF⟩ : ∃ F : Nat → Nat, ∀ i, i < len → F i < 256 ∧ w.cell? ((a.add (i * 1)).add 0) = some (.int .u8 (F i : Int)) :=
      ⟨fun i => if h : i < len then Classical.choose (key i h) else 0, fun i hi => by simp only [dif_pos hi]; exact Classical.choose_spec (key i hi)⟩
    refine ⟨some a, len, cap, (List.range len).map F, rfl, by omega, by simp, fun hn => ?_⟩
    obtain ⟨l0, -, hs⟩ := key 0 hn
    have hspot : a.spot = none := by
      have := World.cell?_spot hs
      simpa [Addr.add] using this
    obtain ⟨b, off, sp⟩ := a
    simp only at hspot
    subst hspot
    refine ⟨b, off, rfl, ?_, fun k l hk => ?_⟩
    · have := World.block_lt_of_cell? w _ hs
      simpa [add_off] using this
    · have hkl : k < len := by
        have := (List.getElem?_eq_some_iff.1 hk).1
        simpa using this
      have hk' : F k = l := by simpa [hkl] using hk
      have hc := hF k hkl
      rw [hk'] at hc
      simpa [add_off] using hc
end
end Go.Proofs.Ytpjgfkdnjkfnfaa
