/- The document's paths and archive, plainly: parts between strokes, what is left of them; the test of an item. -/
import Derived.Test.YtcpnnkkfndgpjaaDoorTD
namespace Go.Proofs.YtcpnnkkfndgpjaaDoor

theorem cut_seg : ∀ {u v : List UInt8}, (∀ c ∈ u, c ≠ 47) → cutS (u ++ 47 :: v) = u :: cutS v
  | [], v, _ => by rw [List.nil_append, cutS, if_pos rfl]
  | c :: u, v, h => by
    rw [List.cons_append, cutS, if_neg (h c List.mem_cons_self), cut_seg (fun d hd => h d (List.mem_cons_of_mem _ hd))]
theorem cut_last : ∀ {u : List UInt8}, (∀ c ∈ u, c ≠ 47) → cutS u = [u]
  | [], _ => rfl
  | c :: u, h => by
    rw [cutS, if_neg (h c List.mem_cons_self), cut_last (fun d hd => h d (List.mem_cons_of_mem _ hd))]
def partsF (s : List UInt8) : List ByteArray := ((cutS s).map mkB).filter saysB
theorem partsN_F (s : ByteArray) : partsN s = partsF s.data.toList := rfl
theorem partsF_seg {u v : List UInt8} (h : ∀ c ∈ u, c ≠ 47) : partsF (u ++ 47 :: v) = (if saysB (mkB u) = true then [mkB u] else []) ++ partsF v := by
  unfold partsF
  rw [cut_seg h, List.map_cons, List.filter_cons]
  split <;> simp
theorem partsF_last {u : List UInt8} (h : ∀ c ∈ u, c ≠ 47) : partsF u = if saysB (mkB u) = true then [mkB u] else [] := by
  unfold partsF
  rw [cut_last h, List.map_cons, List.filter_cons]
  split <;> simp
/-- No stroke from one place on, to another. -/
def NoStroke (s : List UInt8) (f i : Nat) : Prop := ∀ c ∈ (s.drop f).take (i - f), c ≠ 47
theorem NoStroke.nil (s : List UInt8) (f : Nat) : NoStroke s f f := by intro c h; simp at h
theorem NoStroke.snoc {s : List UInt8} {f i : Nat} (h : NoStroke s f i) (hf : f ≤ i) {c : UInt8} (hc : s[i]? = some c) (hn : c ≠ 47) : NoStroke s f (i + 1) := by
  intro d hd
  have e : (s.drop f).take (i + 1 - f) = (s.drop f).take (i - f) ++ [c] := by
    rw [show i + 1 - f = (i - f) + 1 from by omega, List.take_add_one]
    congr 1
    rw [List.getElem?_drop, show f + (i - f) = i from by omega, hc]
    rfl
  rw [e] at hd
  rcases List.mem_append.1 hd with hd | hd
  · exact h d hd
  · rw [List.mem_singleton.1 hd]; exact hn
theorem partsF_at {s : List UInt8} {f i : Nat} (h : NoStroke s f i) (hf : f ≤ i) (hc : s[i]? = some 47) : partsF (s.drop f) = (if saysB (mkB ((s.drop f).take (i - f))) = true then [mkB ((s.drop f).take (i - f))] else []) ++ partsF (s.drop (i + 1)) := by
  obtain ⟨h1, h2⟩ := List.getElem?_eq_some_iff.1 hc
  have e : s.drop f = (s.drop f).take (i - f) ++ 47 :: s.drop (i + 1) := by
    conv => lhs; rw [← List.take_append_drop (i - f) (s.drop f)]
    rw [List.drop_drop, show f + (i - f) = i from by omega, List.drop_eq_getElem_cons h1, h2]
  conv => lhs; rw [e]
  exact partsF_seg h
theorem partsF_end {s : List UInt8} {f : Nat} (h : NoStroke s f s.length) : partsF (s.drop f) = if saysB (mkB ((s.drop f).take (s.length - f))) = true then [mkB ((s.drop f).take (s.length - f))] else [] := by
  have e : (s.drop f).take (s.length - f) = s.drop f := List.take_of_length_le (by simp)
  unfold NoStroke at h
  rw [e] at h ⊢
  exact partsF_last h
theorem leftF_none : ∀ (ps : List ByteArray) (l : List ByteArray) (p : ByteArray), p ∈ ps → p ≠ dotsB → nameB p = false → leftF l ps = none
  | [], _, _, h, _, _ => by cases h
  | q :: ps, l, p, h, h1, h2 => by
    have hd : (if q = dotsB then leftF l.dropLast ps else if nameB q = true then leftF (l ++ [q]) ps else none) = none := by
      rcases List.mem_cons.1 h with rfl | h
      · rw [if_neg h1, if_neg (by rw [h2]; decide)]
      · split
        · exact leftF_none ps _ p h h1 h2
        · split
          · exact leftF_none ps _ p h h1 h2
          · rfl
    exact hd
theorem joinB_one (x : ByteArray) : joinB [x] = x := by
  unfold joinB
  rw [show Lib.join ([x].map (·.data.toList)) [47] = x.data.toList from by simp [Lib.join, List.intercalate]]
  exact mkB_data x
theorem join_snoc2 (l : List (List UInt8)) (a x : List UInt8) : Lib.join (a :: l ++ [x]) [47] = Lib.join (a :: l) [47] ++ [47] ++ x := by
  unfold Lib.join
  induction l generalizing a with
  | nil => simp [List.intercalate]
  | cons b l ih =>
    have e := ih b
    have e1 : ∀ y ys, [47].intercalate (a :: y :: ys) = a ++ 47 :: [47].intercalate (y :: ys) := by intro y ys; simp [List.intercalate]
    rw [List.cons_append, List.cons_append, e1, e1, ← List.cons_append, e]
    simp
theorem joinB_snoc (l : List ByteArray) (x : ByteArray) (h : l ≠ []) : joinB (l ++ [x]) = mkB ((joinB l).data.toList ++ [47] ++ x.data.toList) := by
  cases l with
  | nil => exact absurd rfl h
  | cons a l =>
    unfold joinB
    rw [List.map_append, List.map_cons, List.map_singleton, join_snoc2]
    simp [mkB]
/-- A path that is as it is when clean. -/
def okC (p : Bs) : Bool := decide (mkB p ≠ emptyB) && decide (cleanN (mkB p) = (mkB p, 0))
def behind (p a : Bs) : Bool := !Op.bytesLess p a && !p == a
theorem okP_two (p a : Bs) : okP p a = (okC p && behind p a) := rfl
theorem behind_nil {p : Bs} (h : okC p = true) : behind p [] = true := by
  unfold okC at h
  rw [Bool.and_eq_true, decide_eq_true_eq] at h
  cases p with
  | nil => exact absurd rfl h.1
  | cons c p => rfl
def kindB (k : Int) : Bool := decide (k = 0) || decide (k = 1) || decide (k = 2) || decide (k = 4)
def dryB (k : Int) : Bool := decide (k = 1) || decide (k = 4)
end Go.Proofs.YtcpnnkkfndgpjaaDoor
