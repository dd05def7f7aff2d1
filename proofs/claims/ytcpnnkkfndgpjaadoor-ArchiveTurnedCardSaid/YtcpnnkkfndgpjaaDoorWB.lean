/- append onto bytes that the call owns, or that lie in a block that is full. -/
import Derived.Test.YtcpnnkkfndgpjaaDoorRA
namespace Go.Proofs.YtcpnnkkfndgpjaaDoor
open Go.RowKit

/-- Bytes that the call owns; or bytes that fill their slice. -/
def OwnF (w : World) (v : Value) (n : Nat) (l : Bs) : Prop := Own w 5 1 v n (u8v l) ∨ ∃ A, v = .slice A n n ∧ 0 < n ∧ BySl w A n l
def MineF (w0 w : World) (v : Value) (l : Bs) : Prop := Ext w0 w ∧ OwnF w v l.length l ∧ ∀ k, v.ownBlock = some k → w0.heap.size ≤ k
section
variable {w w' w0 : World} {v v' : Value} {n : Nat} {l m : Bs}
theorem OwnF.ext (h : OwnF w v n l) (hx : Ext w w') : OwnF w' v n l := by
  rcases h with h | ⟨A, h1, h2, h3⟩
  · exact .inl (h.ext hx)
  · exact .inr ⟨A, h1, h2, h3.ext hx⟩
theorem MineF.ext (h : MineF w0 w v l) (hx : Ext w w') : MineF w0 w' v l := ⟨h.1.trans hx, h.2.1.ext hx, h.2.2⟩
theorem MineB.full (h : MineB w0 w v l) : MineF w0 w v l := ⟨h.1, .inl h.2.1, h.2.2⟩
theorem OwnF.form (h : OwnF w v n l) : ∃ A c, v = .slice A n c := by
  rcases h with h | ⟨A, h1, -, -⟩
  · obtain ⟨A, c, h, -⟩ := h.form; exact ⟨A, c, h⟩
  · exact ⟨A, n, h1⟩
theorem OwnF.bytes (h : OwnF w v n l) {A : Option Addr} {c : Nat} (hv : v = .slice A n c) : BySl w A n l := by
  rcases h with h | ⟨A', h1, -, h3⟩
  · subst hv; exact h.bytes rfl
  · rw [hv] at h1; injection h1 with h1; subst h1; exact h3
theorem MineF.push (h : MineF w0 w v l) (m : Bs) {n : Nat} (hn : n = m.length) (ho : Own w' 5 1 v' (l.length + n) (u8v l ++ u8v m)) (hg : w.grownBy w' v.ownBlock) (hv : v'.ownBlock = v.ownBlock ∨ v'.ownBlock = some w.heap.size) : MineB w0 w' v' (l ++ m) := by
  subst hn
  refine ⟨h.1.grown hg (fun k e => h.2.2 k e), by rw [List.length_append, u8v_app]; exact ho, fun k e => ?_⟩
  rcases hv with hv | hv
  · exact h.2.2 k (hv ▸ e)
  · rw [hv] at e
    injection e with e
    have := h.1.size
    omega
theorem run_append_F (i : TypeInfo) (z : Value) (hi : Tryd.prog.info? 5 = some i) (hz : i.zero = some z) (hsize : i.size = 1) (hby : i.bytes = 1) (hzs : z.cells.size = 1) (ty : TypeId)
    (hown : OwnF w v n l) (A : Option Addr) (k c : Nat) (m : Bs) (hk : 0 < k) (hm : BySl w A k m) (h63 : n + k ≤ 17179869184) :
    ∃ v' w', (Builtin.append_ #[26, 26] ty #[v, .slice A k c]).run Tryd.prog w = .ok v' w' ∧ Own w' 5 1 v' (n + k) (u8v l ++ u8v m) ∧ w.grownBy w' v.ownBlock ∧ (v'.ownBlock = v.ownBlock ∨ v'.ownBlock = some w.heap.size) := by
  obtain ⟨b, off, rfl, hb, hc⟩ := hm.2 hk
  have hnews : ∀ (j : Nat) u, (u8v m)[j]? = some u → w.cell? ((⟨b, off, none⟩ : Addr).add j) = some u := fun j u hu => by
    rw [add_off]; simp only [u8v, List.getElem?_map, Option.map_eq_some_iff] at hu; obtain ⟨c', hc', rfl⟩ := hu; exact hc j c' hc'
  have hl : (u8v m).length = k * 1 := by rw [u8v_len, Nat.mul_one, hm.1]
  rcases hown with hown | ⟨B, rfl, hn0, hB⟩
  · exact run_append_own_any (P := Tryd.prog) w 26 ty 5 i z 1 1 Tryd.underlying26 hi hz hsize hby hzs (by decide) v n (u8v l) hown _ k c (u8v m) hl (fun _ => ⟨_, rfl, hnews⟩) (u8v_one m) (by unfold maxLen; omega) (by omega)
  · obtain ⟨g, o, rfl, hg, hcg⟩ := hB.2 hn0
    obtain ⟨v', w', h1, h2, h3, h4⟩ := run_append_new (P := Tryd.prog) w 26 ty 5 i z 1 1 Tryd.underlying26 hi hz hsize hby hzs (some ⟨g, o, none⟩) n n (u8v l) (by rw [u8v_len, Nat.mul_one, hB.1]) (fun _ => ⟨_, rfl, fun j u hu => by
      rw [add_off]; simp only [u8v, List.getElem?_map, Option.map_eq_some_iff] at hu; obtain ⟨c', hc', rfl⟩ := hu; exact hcg j c' hc'⟩) (fun h => by cases h) (some ⟨b, off, none⟩) k c (u8v m) hl hk ⟨_, rfl, hnews⟩ (by omega) (by unfold maxLen; omega) (by omega)
    exact ⟨v', w', h1, h2, ⟨h3.os, h3.tape, h3.output, h3.size, fun j hj _ => h3.block j hj (fun f => f)⟩, .inr h4⟩
theorem wp_append_F {o : Oper} {a : Act} {K : Act → World → Prop} {Q : Exit → Act → World → Prop} (s x : Operand)
    (ho : o.op = .call { callee := .builtin .append, args := #[s, x], argTypes := #[26, 26] })
    (i : TypeInfo) (z : Value) (hi : Tryd.prog.info? 5 = some i) (hz : i.zero = some z) (hsize : i.size = 1) (hby : i.bytes = 1) (hzs : z.cells.size = 1)
    (v : Value) (n : Nat) (l : Bs) (hs : a.eval s = v) (hown : OwnF w v n l) (A : Option Addr) (k c : Nat) (m : Bs) (hx : a.eval x = .slice A k c) (hk : 0 < k) (hm : BySl w A k m) (h63 : n + k ≤ 17179869184)
    (h : ∀ v' w', Own w' 5 1 v' (n + k) (u8v l ++ u8v m) → w.grownBy w' v.ownBlock → (v'.ownBlock = v.ownBlock ∨ v'.ownBlock = some w.heap.size) → K (a.put o.dst v') w') : o.wp Tryd.prog a w K Q := by
  obtain ⟨v', w', hrun, h2, h3, h4⟩ := run_append_F i z hi hz hsize hby hzs o.type hown A k c m hk hm h63
  unfold Oper.wp execOp
  simp only [ho, resolve, invoke, builtin, Sem.run_bind, Sem.run_pure, Result.andThen_ok, List.map_toArray, List.map_cons, List.map_nil, hs, hx, hrun]
  exact h v' w' h2 h3 h4
theorem wpList_append_F {ops : Array Oper} {rest : List Oper} {o : Oper} {a : Act} {Q : Exit → Act → World → Prop} (hgd : o.guard = none) (s x : Operand)
    (ho : o.op = .call { callee := .builtin .append, args := #[s, x], argTypes := #[26, 26] })
    (i : TypeInfo) (z : Value) (hi : Tryd.prog.info? 5 = some i) (hz : i.zero = some z) (hsize : i.size = 1) (hby : i.bytes = 1) (hzs : z.cells.size = 1)
    (v : Value) (n : Nat) (l : Bs) (hs : a.eval s = v) (hown : OwnF w v n l) (A : Option Addr) (k c : Nat) (m : Bs) (hx : a.eval x = .slice A k c) (hk : 0 < k) (hm : BySl w A k m) (h63 : n + k ≤ 17179869184)
    (h : ∀ v' w', Own w' 5 1 v' (n + k) (u8v l ++ u8v m) → w.grownBy w' v.ownBlock → (v'.ownBlock = v.ownBlock ∨ v'.ownBlock = some w.heap.size) → wpList Tryd.prog ops Q rest (a.put o.dst v') w') : wpList Tryd.prog ops Q (o :: rest) a w :=
  wpList_plain hgd fun _ hK => wp_append_F s x ho i z hi hz hsize hby hzs v n l hs hown A k c m hx hk hm h63 fun v' w' h2 h3 h4 => hK _ _ (h v' w' h2 h3 h4)
end
theorem one_byte (w : World) (c : UInt8) : BySl (w.alloc (.cells #[.int .u8 (c.toNat : Int)] 5)) (some ⟨w.heap.size, 0, none⟩) 1 [c] :=
  ⟨rfl, fun _ => ⟨w.heap.size, 0, rfl, by simp, fun k c' hk => by
    rw [(Ext.refl _).cell_new]
    rcases k with _ | k
    · cases hk; rfl
    · cases hk⟩⟩
end Go.Proofs.YtcpnnkkfndgpjaaDoor
