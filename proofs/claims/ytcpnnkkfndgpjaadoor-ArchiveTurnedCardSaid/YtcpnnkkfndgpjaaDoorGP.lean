/- How items read where nothing bounds their number: no length passes what a machine holds. -/
import Derived.Test.YtcpnnkkfndgpjaaDoorGO
namespace Go.Proofs.YtcpnnkkfndgpjaaDoor
open Go.ChangeShapes Go.WideShapes Go.ChangeAt Go.RowKit Go.Joins Go.ChangeMaps Go.Deep

theorem weightsAll_mem {H : Type} {P : Program} {e : TypeId} {d : DataW H} : ∀ {l : List (DataW H)}, d ∈ l → ∀ z ∈ d.weights P e, z ∈ DataW.weightsAll P e l
  | [], h, _, _ => by cases h
  | d' :: l, h, z, hz => by
    unfold DataW.weightsAll
    rcases List.mem_cons.1 h with rfl | h
    · exact List.mem_append.2 (.inl hz)
    · exact List.mem_append.2 (.inr (weightsAll_mem h z hz))
theorem weights_slice {H : Type} {t e : TypeId} {els sp : List (DataW H)} (ht : Tryd.prog.underlying t = some (.slice e)) : (DataW.slice els sp).weights Tryd.prog t = (els.length + sp.length) * Tryd.prog.bytesOf e :: (DataW.weightsAll Tryd.prog e els ++ DataW.weightsAll Tryd.prog e sp) := by
  rw [DataW.weights.eq_def]
  simp only [ht]
section
variable {H : Type} {enc : TypeId × Value → H} {w : World} {base : Nat} {spare : Nat → Bool} {held : Bool}
theorem bytes_len {fuel : Nat} {A : Option Addr} {n c : Nat} {x : DataW H × List MemPlace} (h : DataW.trod enc Tryd.prog w base spare held fuel 26 [.slice A n c] = some x) (hw : ∀ z ∈ x.1.weights Tryd.prog 26, z ≤ reachBytes) : n ≤ reachBytes := by
  rcases Go.ChangeShapes.open_ints Tryd.underlying26 Tryd.underlying5 (by kernel_rfl) h with ⟨h1, rfl⟩ | ⟨a, len, cap, zs, h1, hb, hl, hm, hz, rfl, hc, hwf⟩
  · injection h1 with h1
    injection h1 with _ h1
    omega
  · injection h1 with h1
    injection h1 with _ h1
    subst h1
    have hB : Tryd.prog.bytesOf 5 = 1 := by kernel_rfl
    have hle : n ≤ zs.length := by rw [hz]; split <;> omega
    have := hw _ (by rw [weights_slice Tryd.underlying26]; exact List.mem_cons_self)
    rw [hB] at this
    simp only [lits, List.length_map, List.length_take, List.length_drop] at this
    omega
theorem open_item_w {fuel : Nat} {cs : List Value} {x : DataW H × List MemPlace} (h : DataW.trod enc Tryd.prog w base spare held fuel 50 cs = some x) (hw : ∀ z ∈ x.1.weights Tryd.prog 50, z ≤ reachBytes) :
    ∃ (y : It) (D : Option Addr) (dc : Nat), cs = [.string (mkB y.path), .int .i8 y.kind, .slice D y.data.length dc] ∧ BySl w D y.data.length y.data ∧ -128 ≤ y.kind ∧ y.kind ≤ 127 ∧ y.path.length ≤ reachBytes ∧ y.data.length ≤ reachBytes := by
  obtain ⟨y0, y1, y2, n, hx, hlen, h0, h1, h2⟩ := trod_struct3 Tryd.underlying50 h
  have hC : Tryd.prog.cellsOf 50 = 3 := by kernel_rfl
  have c0 : Tryd.prog.cellsOf 9 = 1 := by kernel_rfl
  have c1 : Tryd.prog.cellsOf 48 = 1 := by kernel_rfl
  have c2 : Tryd.prog.cellsOf 26 = 1 := by kernel_rfl
  rw [hC] at hlen
  obtain ⟨a, b, c, rfl⟩ := three hlen
  simp only [c0, c1, c2, List.drop_zero, List.drop_succ_cons, List.take_succ_cons, List.take_zero] at h0 h1 h2
  obtain ⟨s, e0, g0, -⟩ := DataW.trod_string Tryd.underlying9 h0
  obtain ⟨k, e1, g1, w1⟩ := DataW.trod_int Tryd.underlying48 h1
  have h2' := h2
  obtain ⟨D, nd, dc, l, e2, -, hby, hbk⟩ := open_bytes h2
  simp only [List.cons.injEq, and_true] at e0 e1 e2
  subst e0 e1 e2
  simp only [Lit.wf, Bool.and_eq_true, decide_eq_true_eq] at w1
  have hl := hby.1
  subst hl
  have hww : x.1.weights Tryd.prog 50 = DataW.weightsEach Tryd.prog [9, 48, 26] [y0.1, y1.1, y2.1] := by
    rw [hx, DataW.weights.eq_def]
    simp only [Tryd.underlying50]
    rfl
  have hs : s.data.toList.length ≤ reachBytes := hw _ (by
    rw [hww, g0]
    simp [DataW.weightsEach, DataW.weights])
  have h26 := bytes_len h2' (fun z hz => hw z (by
    rw [hww]
    simp [DataW.weightsEach, hz]))
  exact ⟨⟨s.data.toList, k, l⟩, D, dc, rfl, hby, w1.1, w1.2, hs, h26⟩
theorem open_items_w {fuel : Nat} {cs : List Value} {x : DataW H × List MemPlace} (h : DataW.trod enc Tryd.prog w base spare held fuel 22 cs = some x) (hw : ∀ z ∈ x.1.weights Tryd.prog 22, z ≤ reachBytes) :
    ∃ A n c ls, cs = [.slice A n c] ∧ n ≤ c ∧ ItSl w A n ls ∧ (∀ y ∈ ls, -128 ≤ y.kind ∧ y.kind ≤ 127) ∧ (∀ y ∈ ls, y.path.length < 140737488355328 ∧ y.data.length < 140737488355328) ∧ n < 140737488355328 := by
  have hrb := reachBytes_lt
  rcases open_slice Tryd.underlying22 h with ⟨rfl, rfl⟩ | ⟨a, len, cap, m, n, D, Pl, rfl, _, hl, hm, hmm, rfl, hi⟩
  · exact ⟨none, 0, 0, [], rfl, Nat.le_refl _, ⟨rfl, fun h => absurd h (by omega)⟩, fun y hy => by simp at hy, fun y hy => by simp at hy, by omega⟩
  · have hC : Tryd.prog.cellsOf 50 = 3 := by kernel_rfl
    have hB : Tryd.prog.bytesOf 50 = 48 := by kernel_rfl
    simp only [hC] at hi
    have hlm : len ≤ m := by rw [hmm]; split <;> omega
    have hwn := hw _ (by rw [weights_slice Tryd.underlying22]; exact List.mem_cons_self)
    rw [hB] at hwn
    simp only [List.length_map, List.length_range] at hwn
    have key : ∀ i, i < len → ∃ y : It, (-128 ≤ y.kind ∧ y.kind ≤ 127) ∧ (y.path.length ≤ reachBytes ∧ y.data.length ≤ reachBytes) ∧ ∃ E dc, BySl w E y.data.length y.data ∧ ∀ j u, ([Value.string (mkB y.path), .int .i8 y.kind, .slice E y.data.length dc] : List Value)[j]? = some u → w.cell? ((a.add (i * 3)).add j) = some u := by
      intro i hil
      obtain ⟨cs', hc, ht⟩ := hi i (by omega)
      obtain ⟨y, E, dc, rfl, hby, hk1, hk2, hs1, hs2⟩ := open_item_w ht (fun z hz => hw z (by
        rw [weights_slice Tryd.underlying22]
        exact List.mem_cons_of_mem _ (List.mem_append.2 (.inl (weightsAll_mem (List.mem_map.2 ⟨i, List.mem_range.2 hil, rfl⟩) z hz)))))
      obtain ⟨_, _, hcell⟩ := World.cells?_some hc
      refine ⟨y, ⟨hk1, hk2⟩, ⟨hs1, hs2⟩, E, dc, hby, fun j u hu => ?_⟩
      have hj : j < 3 := by
        have := (List.getElem?_eq_some_iff.1 hu).1
        simpa using this
      rw [hcell j hj, hu]
    refine ⟨some a, len, cap, (List.range len).map (fun i => if h : i < len then Classical.choose (key i h) else ⟨[], 0, []⟩), rfl, hl, ⟨by simp, fun hn => ?_⟩, fun y hy => ?_, fun y hy => ?_, by omega⟩
    · obtain ⟨y0, -, -, E0, dc0, -, h0⟩ := key 0 hn
      have hs := h0 0 _ rfl
      have hspot : a.spot = none := by
        have := World.cell?_spot hs
        simpa [Addr.add] using this
      obtain ⟨b, off, sp⟩ := a
      simp only at hspot
      subst hspot
      refine ⟨b, off, rfl, ?_, fun k y hk => ?_⟩
      · have := World.block_lt_of_cell? w _ hs
        simpa [add_off] using this
      · have hkl : k < len := by
          have := (List.getElem?_eq_some_iff.1 hk).1
          simpa using this
        rw [List.getElem?_map, List.getElem?_range hkl, Option.map_some, dif_pos hkl] at hk
        injection hk with hk
        obtain ⟨-, -, E, dc, hby, hc⟩ := Classical.choose_spec (key k hkl)
        rw [hk] at hc hby
        simp only [add_off] at hc
        exact ⟨hc 0 _ rfl, hc 1 _ rfl, E, dc, hc 2 _ rfl, hby⟩
    · obtain ⟨k, hk, rfl⟩ := List.mem_map.1 hy
      have hkl := List.mem_range.1 hk
      simp only [hkl, dite_true]
      exact (Classical.choose_spec (key k hkl)).1
    · obtain ⟨k, hk, rfl⟩ := List.mem_map.1 hy
      have hkl := List.mem_range.1 hk
      simp only [hkl, dite_true]
      have := (Classical.choose_spec (key k hkl)).2.1
      omega
end
end Go.Proofs.YtcpnnkkfndgpjaaDoor
