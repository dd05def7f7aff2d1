/- append of a make, onto a slice that a list owns. -/
import Derived.Test.YtcpnnkkfndgpjaaDoorBase
import Derived.Lib.AppendZerosOnto
namespace Go.Proofs.YtcpnnkkfndgpjaaDoor
open Go.RowKit

/-- Every row keeps its size and its type. -/
def RowsLike (w w' : World) : Prop := ∀ (b : Nat) (cur : Array Value) (e : TypeId), w.heap[b]? = some (Obj.cells cur e (0, 0)) → ∃ cur' : Array Value, w'.heap[b]? = some (Obj.cells cur' e (0, 0)) ∧ cur'.size = cur.size
theorem RowsLike.refl (w : World) : RowsLike w w := fun _ cur _ h => ⟨cur, h, rfl⟩
theorem RowsLike.trans {a b c : World} (h : RowsLike a b) (k : RowsLike b c) : RowsLike a c := fun i cur e hi => by
  obtain ⟨c1, h1, h2⟩ := h i cur e hi
  obtain ⟨c2, h3, h4⟩ := k i c1 e h1
  exact ⟨c2, h3, h4.trans h2⟩
theorem RowsLike.ext {w w' : World} (h : Ext w w') : RowsLike w w' := fun b cur _ hb => ⟨cur, (Mod.block h b (Array.getElem?_eq_some_iff.1 hb).1 (fun f => f)).trans hb, rfl⟩
theorem RowsLike.setCell (w : World) (b i : Nat) (u : Value) : RowsLike w (w.setCell ⟨b, i, none⟩ u) := fun g cur e hg => by
  by_cases h : b = g
  · subst h
    exact ⟨cur.setIfInBounds i u, by simp [World.setCell, Array.getElem?_modify, hg], by simp⟩
  · exact ⟨cur, by simp [World.setCell, Array.getElem?_modify, h, hg], rfl⟩
theorem Own.like {w w' : World} {e : TypeId} {size : Nat} {v : Value} {n : Nat} {xs : List Value} (h : Own w e size v n xs) (hl : RowsLike w w') : ∃ ys, Own w' e size v n ys := by
  rcases h.2 with ⟨rfl, rfl⟩ | ⟨g, off, cap, cur, rfl, hg, hnc, hcm, hcs, _⟩
  · exact ⟨[], Own.nil _ _ _⟩
  · obtain ⟨cur', h1, h2⟩ := hl g cur e hg
    refine ⟨_, ?_, .inr ⟨g, off, cap, cur', rfl, h1, hnc, hcm, by omega, rfl⟩⟩
    have : n * size ≤ cap * size := Nat.mul_le_mul_right _ hnc
    simp
    omega
section
variable {P : Program} (w : World)
theorem run_append_own_zeros (t tn ty e : TypeId) (i : TypeInfo) (z : Value) (size bytes : Nat) (kq kn : IntKind) (ht : P.underlying t = some (.slice e)) (htn : P.underlying tn = some (.int kn)) (hi : P.info? e = some i) (hz : i.zero = some z)
    (hsize : i.size = size) (hby : i.bytes = bytes) (hzs : z.cells.size = size) (hsz : 0 < size)
    (v : Value) (n : Nat) (xs : List Value) (hown : Own w e size v n xs)
    (k : Nat) (zs : List Value) (hZ : Builtin.zeroCells z.cells k = zs.toArray) (hl : zs.length = k * size) (h1 : ∀ u ∈ zs, u.oneCell' = true) (h0 : 0 < k)
    (h63 : n + k ≤ maxLen) (hbytes : (n + k) * bytes ≤ 140737488355328) :
    ∃ v' w', (Builtin.append_ #[t, tn] ty #[v, .int kq k]).run P w = .ok v' w' ∧ Own w' e size v' (n + k) (xs ++ zs) ∧ w.grownBy w' v.ownBlock ∧
      (v'.ownBlock = v.ownBlock ∨ v'.ownBlock = some w.heap.size) ∧ RowsLike w w' := by
  subst hsize
  subst hby
  have hsmall : n + k ≤ 9223372036854775807 := by simp only [maxLen] at h63; omega
  have hlen : (xs ++ zs).length = (n + k) * i.size := by rw [List.length_append, hown.1, hl, Nat.add_mul]
  have h48 : k * i.bytes ≤ 281474976710656 := by rw [Nat.add_mul] at hbytes; omega
  have grown : ∀ (old : Nat), old < n + k → ∀ (row : Option Nat),
      Own (w.drew.alloc (.cells (xs.toArray ++ Builtin.zeroCells z.cells k ++ Builtin.zeroCells z.cells (grownCap w (n + k) old e - (n + k))) e)) e i.size
        (.slice (some ⟨w.heap.size, 0, none⟩) (n + k) (grownCap w (n + k) old e)) (n + k) (xs ++ zs) ∧
      w.grownBy (w.drew.alloc (.cells (xs.toArray ++ Builtin.zeroCells z.cells k ++ Builtin.zeroCells z.cells (grownCap w (n + k) old e - (n + k))) e)) row := by
    intro old ho row
    have hge := grownCap_ge w (n + k) old e
    have hcm : grownCap w (n + k) old e ≤ maxLen := grownCap_le_maxLen w (n + k) old e h63
    rw [hZ]
    refine ⟨⟨hlen, .inr ⟨w.heap.size, 0, _, _, rfl, heap_alloc_new w.drew _, hge, hcm, ?_, ?_⟩⟩, ⟨rfl, rfl, rfl, by simp, fun k hk _ => Below.heap_alloc w.drew _ k hk⟩⟩
    · simp only [Array.size_append, List.size_toArray, size_zeroCells, hzs, hown.1, hl, ← Nat.add_mul, Nat.zero_add]
      exact Nat.mul_le_mul_right _ (by omega)
    · simp only [Array.toList_append, List.append_assoc, List.drop_zero]
      rw [← List.append_assoc, ← hlen]
      exact List.take_left
  rcases hown.2 with ⟨rfl, rfl⟩ | ⟨g, off, cap, cur, rfl, hg, hnc, hcm, hcs, htake⟩
  · have hx : xs = [] := List.eq_nil_of_length_eq_zero (by simpa using hown.1)
    subst hx
    have hr := Lib.run_append_grow_zeros (P := P) w t tn ty e i z kq kn ht htn hi hz none 0 0 [] rfl k h0 hsz (by omega) (by omega) h48 (growslice_fits (by omega) hbytes)
    have hgr := grown 0 (by omega) (Value.ownBlock (.slice none 0 0))
    exact ⟨_, _, hr, hgr.1, hgr.2, .inr rfl, RowsLike.ext ((Ext.refl _).drew.alloc _)⟩
  · by_cases hroom : n + k ≤ cap
    · have hmul : (n + k) * i.size ≤ cap * i.size := Nat.mul_le_mul_right _ hroom
      have hadd := Nat.add_mul n k i.size
      have hfit : off + n * i.size + zs.length ≤ cur.size := by rw [hl]; omega
      have hst := run_storeCells_at P g (off + n * i.size) e zs 0 cur w hg (by simpa using hfit) h1
      simp only [Nat.add_zero] at hst
      refine ⟨.slice (some ⟨g, off, none⟩) (n + k) cap, w.setRow g (cur.toList.take (off + n * i.size) ++ zs ++ cur.toList.drop (off + n * i.size + zs.length)).toArray, ?_, ⟨hlen, .inr ⟨g, off, cap, _, rfl, setRow_heap w g cur _ e _ hg, hroom, hcm, ?_, ?_⟩⟩, ⟨rfl, rfl, rfl, by simp, fun k _ hk => setRow_other w g k _ (fun e => hk (by simp [Value.ownBlock, e]))⟩, .inl rfl, fun b cur' e' hb => ?_⟩
      · have hk : k ≠ 0 := by omega
        have hw : IntKind.i64.wrap (k : Int) = k := by rw [IntKind.wrap_i64]; omega
        have h48i : ¬ (281474976710656 < (k : Int) * (i.bytes : Int)) := by
          rw [← Int.natCast_mul]
          omega
        have hneg : ¬ ((k : Int) < 0) := by omega
        have hns : ¬ (k * i.size = 0) := Nat.mul_ne_zero hk (by omega)
        simp [Builtin.append_, run_underlying ht, run_underlying htn, sizeOf, typeInfo, zeroValue, hi, hz, asInt, asIntOf, hw, hneg, hns, h48i, hroom, hZ, Addr.add_lit, hst]
      · simp only [List.size_toArray, List.length_append, List.length_take, List.length_drop, Array.length_toList]
        omega
      · have h3 : (cur.toList.take (off + n * i.size)).drop off = xs := by
          rw [List.drop_take, ← htake]
          congr 1
          omega
        have h4 : off ≤ (cur.toList.take (off + n * i.size)).length := by
          simp only [List.length_take, Array.length_toList]; omega
        simp only [List.append_assoc]
        rw [List.drop_append_of_le_length h4, h3, ← hlen, ← List.append_assoc]
        exact List.take_left
      · by_cases hbg : b = g
        · subst hbg
          rw [hg] at hb
          injection hb with hb
          injection hb with e1 e2
          subst e1 e2
          refine ⟨_, setRow_heap w b cur _ e _ hg, ?_⟩
          simp only [List.size_toArray, List.length_append, List.length_take, List.length_drop, Array.length_toList]
          omega
        · exact ⟨cur', (setRow_other w g b _ hbg).trans hb, rfl⟩
    · have hfc := run_firstCells_some (P := P) w.drew i.size n ⟨g, off, none⟩ n cap xs hown.1 (fun j u hu => by rw [add_off]; exact hown.cells rfl j u hu)
      have hr := Lib.run_append_grow_zeros (P := P) w t tn ty e i z kq kn ht htn hi hz (some ⟨g, off, none⟩) n cap xs hfc k h0 hsz (by omega) (by omega) h48 (growslice_fits (by omega) hbytes)
      have hgr := grown cap (by omega) (Value.ownBlock (.slice (some ⟨g, off, none⟩) n cap))
      exact ⟨_, _, hr, hgr.1, hgr.2, .inr rfl, RowsLike.ext ((Ext.refl _).drew.alloc _)⟩
end
section
variable {P : Program} (w : World)
theorem wpList_append_own_zeros {ops : Array Oper} {rest : List Oper} {o : Oper} {a : Act} {Q : Exit → Act → World → Prop} (hgd : o.guard = none) (s x : Operand) (t tn : TypeId)
    (ho : o.op = .call { callee := .builtin .append, args := #[s, x], argTypes := #[t, tn] })
    (e : TypeId) (i : TypeInfo) (z : Value) (size bytes : Nat) (kq kn : IntKind) (ht : P.underlying t = some (.slice e)) (htn : P.underlying tn = some (.int kn)) (hi : P.info? e = some i) (hz : i.zero = some z)
    (hsize : i.size = size) (hby : i.bytes = bytes) (hzs : z.cells.size = size) (hsz : 0 < size)
    (v : Value) (n : Nat) (xs : List Value) (hs : a.eval s = v) (hown : Own w e size v n xs)
    (k : Nat) (hx : a.eval x = .int kq k) (zs : List Value) (hZ : Builtin.zeroCells z.cells k = zs.toArray) (hl : zs.length = k * size) (h1 : ∀ u ∈ zs, u.oneCell' = true) (h0 : 0 < k)
    (h63 : n + k ≤ maxLen) (hbytes : (n + k) * bytes ≤ 140737488355328)
    (h : ∀ v' w', Own w' e size v' (n + k) (xs ++ zs) → w.grownBy w' v.ownBlock → (v'.ownBlock = v.ownBlock ∨ v'.ownBlock = some w.heap.size) → RowsLike w w' → wpList P ops Q rest (a.put o.dst v') w') : wpList P ops Q (o :: rest) a w := by
  obtain ⟨v', w', hrun, h2, h3, h4, h5⟩ := run_append_own_zeros (P := P) w t tn o.type e i z size bytes kq kn ht htn hi hz hsize hby hzs hsz v n xs hown k zs hZ hl h1 h0 h63 hbytes
  refine wpList_plain hgd fun K hK => ?_
  unfold Oper.wp execOp
  simp only [ho, resolve, invoke, builtin, Sem.run_bind, Sem.run_pure, Result.andThen_ok, List.map_toArray, List.map_cons, List.map_nil, hs, hx, hrun]
  exact hK _ _ (h v' w' h2 h3 h4 h5)
end
end Go.Proofs.YtcpnnkkfndgpjaaDoor
