/- An item at the front of what came. -/
import Derived.Test.YtcpnnkkfndgpjaaDoorTD
import Derived.Test.YtcpnnkkfndgpjaaDoorSD
import Derived.Shelf.Bytes.SlEqualAll
namespace Go.Proofs.YtcpnnkkfndgpjaaDoor
open Go.RowKit

/-- An item's three cells. -/
def ItAt (w : World) (i : Nat) (p : Value) (k : Int) (d : Value) : Prop := w.heap[i]? = some (.cells #[p, .int .i8 k, d] 50 (0, 0))
section
variable {w w' : World} {i : Nat} {p d : Value} {k : Int} {S : Nat → Prop}
theorem ItAt.lt (h : ItAt w i p k d) : i < w.heap.size := (Array.getElem?_eq_some_iff.1 h).1
theorem ItAt.mod (h : ItAt w i p k d) (hm : Mod S w w') (h1 : ¬ S i) : ItAt w' i p k d := (hm.block i h.lt h1).trans h
theorem ItAt.ext (h : ItAt w i p k d) (hm : Ext w w') : ItAt w' i p k d := h.mod hm (fun f => f)
theorem ItAt.cells (h : ItAt w i p k d) : w.cell? ⟨i, 0, none⟩ = some p ∧ w.cell? ⟨i, 1, none⟩ = some (.int .i8 k) ∧ w.cell? ⟨i, 2, none⟩ = some d ∧ (∀ o, w.frozen? ⟨i, o, none⟩ = false) := by
  have hc := fun j => cell_of_row w i j _ 50 (0, 0) h
  exact ⟨hc 0, hc 1, hc 2, fun o => by unfold ItAt at h; simp [World.frozen?, h]⟩
theorem ItAt.setPath (h : ItAt w i p k d) (q : Value) : ItAt (w.setCell ⟨i, 0, none⟩ q) i q k d := heap_setCell_at h _
theorem ItAt.setData (h : ItAt w i p k d) (q : Value) : ItAt (w.setCell ⟨i, 2, none⟩ q) i p k q := heap_setCell_at h _
end
theorem ItAt.again {w0 w : World} {i : Nat} {p d p' d' : Value} {k k' : Int} (h : ItAt w i p k d) (hx : Ext w0 w) (hi : w0.heap.size ≤ i) :
    ItAt (((w.setCell ⟨i, 0, none⟩ p').setCell ⟨i, 1, none⟩ (.int .i8 k')).setCell ⟨i, 2, none⟩ d') i p' k' d' ∧ Ext w0 (((w.setCell ⟨i, 0, none⟩ p').setCell ⟨i, 1, none⟩ (.int .i8 k')).setCell ⟨i, 2, none⟩ d') :=
  ⟨heap_setCell_at (heap_setCell_at (heap_setCell_at h _) _) _, ((hx.setCell _ _ hi).setCell _ _ hi).setCell _ _ hi⟩
theorem run_bytes_string {w : World} {A : Option Addr} {n : Nat} {l : Bs} (h : BySl w A n l) (c : Nat) : (convert 26 9 (.slice A n c)).run Tryd.prog w = .ok (.string (mkB l)) w := by
  have hl := h.1
  have hb : Lib.BytesIn w A n (l.map fun c => (c.toNat : Int)) := fun hn => by
    obtain ⟨b, off, rfl, -, hc⟩ := h.2 hn
    refine ⟨b, off, rfl, fun i hi => ?_⟩
    have hil : i < l.length := by omega
    rw [hc i l[i] (List.getElem?_eq_getElem hil)]
    simp [List.getD, hil]
  have := hb.convert (by simp [hl]) c 26 5 9 Tryd.underlying26 Tryd.underlying5 Tryd.underlying9
  rw [this]
  have e : (l.map fun c => (c.toNat : Int)).map (fun n => UInt8.ofNat n.toNat) = l := by
    rw [List.map_map]
    conv => rhs; rw [← List.map_id l]
    apply List.map_congr_left
    intro c _
    show UInt8.ofNat ((c.toNat : Int).toNat) = c
    rw [Int.toNat_natCast]
    exact UInt8.ofNat_toNat
  have e2 : strOfNums (l.map fun c => (c.toNat : Int)) = mkB l := by
    show (⟨((l.map fun c => (c.toNat : Int)).map fun n => UInt8.ofNat n.toNat).toArray⟩ : ByteArray) = ⟨l.toArray⟩
    rw [e]
  rw [e2]
/-- The state behind an item. -/
def eaten (Z : Sp) (x : Rd) (m : Nat) (y : It) : Rd := { x with b := x.b.drop m, sum := fnv Z x.sum (x.b.take m), items := x.items + 1, ahead := y.path }
def ItemPost (Z : Sp) (x : Rd) (r : Nat) (A : Option Addr) (n c : Nat) (f : Fr) (w : World) (e : Ending) (w' : World) : Prop :=
  match f with
  | .bad => e = tornV ∧ Ext w w'
  | .wait => Ext w w' ∧ ∃ p k, e = .returned (.tuple #[.agg #[.string p, .int .i8 k, .slice none 0 0], .bool false])
  | .item m y => ∃ D dc A' n' c', e = .returned (.tuple #[.agg #[.string ⟨y.path.toArray⟩, .int .i8 y.kind, .slice D y.data.length dc], .bool true]) ∧ RdAt w' r A' n' c' (eaten Z x m y) false ∧
      (Value.slice A' n' c').ownBlock = (Value.slice A n c).ownBlock ∧ Mod (fun k => k = r) w w' ∧ Own w' 5 1 (.slice D y.data.length dc) y.data.length (u8v y.data) ∧ (∀ k, (Value.slice D y.data.length dc).ownBlock = some k → w.heap.size ≤ k)
  | .fin => False
/-- What stands when an item is handed back. -/
theorem item_end {Z : Sp} {x : Rd} {r n c n1 c1 : Nat} {A A1 : Option Addr} {P D : Bs} {K : Int} {D' : Option Addr} {dc M : Nat} {w w10 : World} {F : Fr} (q : Nat)
    (hm : Mod (fun k => k = r) w w10) (hr : RdAt w10 r A1 n1 c1 { x with sum := fnv Z x.sum (x.b.take q), b := x.b.drop q } false) (hi : ItAt w10 w.heap.size (.string (mkB P)) K (.slice D' M dc)) (ho : Own w10 5 1 (.slice D' M dc) M (u8v D))
    (hv : ∀ k, (Value.slice D' M dc).ownBlock = some k → w.heap.size + 1 ≤ k) (hrw : r < w.heap.size) (hg : ∀ k, (Value.slice A1 n1 c1).ownBlock = some k → k < w.heap.size) (hD : D.length = M) (hF : F = .item q ⟨P, K, D⟩) (hob : (Value.slice A1 n1 c1).ownBlock = (Value.slice A n c).ownBlock) :
    (((((w10.setCell ⟨r, 3, none⟩ (.int .i64 ((x.items : Int) + 1))).setCell ⟨r, 4, none⟩ (.string (mkB P))).setCell ⟨w.heap.size, 0, none⟩ (.string (mkB P))).setCell ⟨w.heap.size, 1, none⟩ (.int .i8 K)).setCell ⟨w.heap.size, 2, none⟩ (.slice D' M dc)).cell? ⟨w.heap.size, 0, none⟩ = some (.string (mkB P)) ∧
    (((((w10.setCell ⟨r, 3, none⟩ (.int .i64 ((x.items : Int) + 1))).setCell ⟨r, 4, none⟩ (.string (mkB P))).setCell ⟨w.heap.size, 0, none⟩ (.string (mkB P))).setCell ⟨w.heap.size, 1, none⟩ (.int .i8 K)).setCell ⟨w.heap.size, 2, none⟩ (.slice D' M dc)).cell? ⟨w.heap.size, 1, none⟩ = some (.int .i8 K) ∧
    (((((w10.setCell ⟨r, 3, none⟩ (.int .i64 ((x.items : Int) + 1))).setCell ⟨r, 4, none⟩ (.string (mkB P))).setCell ⟨w.heap.size, 0, none⟩ (.string (mkB P))).setCell ⟨w.heap.size, 1, none⟩ (.int .i8 K)).setCell ⟨w.heap.size, 2, none⟩ (.slice D' M dc)).cell? ⟨w.heap.size, 2, none⟩ = some (.slice D' M dc) ∧
    ItemPost Z x r A n c F w (.returned (.tuple #[.agg #[.string (mkB P), .int .i8 K, .slice D' M dc], .bool true])) (((((w10.setCell ⟨r, 3, none⟩ (.int .i64 ((x.items : Int) + 1))).setCell ⟨r, 4, none⟩ (.string (mkB P))).setCell ⟨w.heap.size, 0, none⟩ (.string (mkB P))).setCell ⟨w.heap.size, 1, none⟩ (.int .i8 K)).setCell ⟨w.heap.size, 2, none⟩ (.slice D' M dc)) := by
  subst hD hF
  have hri : ¬ w.heap.size = r := by omega
  have hR := (hr.setItems (x.items + 1)).setAhead P
  have hit : ((x.items + 1 : Nat) : Int) = (x.items : Int) + 1 := by omega
  rw [hit] at hR
  have hm1 : Mod (fun k => k = r) w10 ((w10.setCell ⟨r, 3, none⟩ (.int .i64 ((x.items : Int) + 1))).setCell ⟨r, 4, none⟩ (.string (mkB P))) := (mod_set w10 r 3 _).trans (mod_set _ r 4 _) (fun _ _ e => e)
  have hI := hi.mod hm1 hri
  have hO := ho.mod hm1 (fun k hk e => by have := hv k hk; omega)
  have hmw := hm.trans hm1 (fun _ _ e => e)
  have hR' : RdAt ((w10.setCell ⟨r, 3, none⟩ (.int .i64 ((x.items : Int) + 1))).setCell ⟨r, 4, none⟩ (.string (mkB P))) r A1 n1 c1 (eaten Z x q ⟨P, K, D⟩) false := hR
  generalize (w10.setCell ⟨r, 3, none⟩ (.int .i64 ((x.items : Int) + 1))).setCell ⟨r, 4, none⟩ (.string (mkB P)) = B at *
  have hmF : Mod (fun k => k = w.heap.size) B (((B.setCell ⟨w.heap.size, 0, none⟩ (.string (mkB P))).setCell ⟨w.heap.size, 1, none⟩ (.int .i8 K)).setCell ⟨w.heap.size, 2, none⟩ (.slice D' D.length dc)) := ((mod_set B w.heap.size 0 _).trans (mod_set _ w.heap.size 1 _) (fun _ _ e => e)).trans (mod_set _ w.heap.size 2 _) (fun _ _ e => e)
  have hitF : ItAt (((B.setCell ⟨w.heap.size, 0, none⟩ (.string (mkB P))).setCell ⟨w.heap.size, 1, none⟩ (.int .i8 K)).setCell ⟨w.heap.size, 2, none⟩ (.slice D' D.length dc)) w.heap.size (.string (mkB P)) K (.slice D' D.length dc) := heap_setCell_at (heap_setCell_at (heap_setCell_at hI _) _) _
  obtain ⟨z0, z1, z2, -⟩ := hitF.cells
  refine ⟨z0, z1, z2, D', dc, A1, n1, c1, rfl, hR'.mod hmF (fun e => hri e.symm) (fun k hk e => by have := hg k hk; omega), hob, hmw.trans hmF (fun j hj e => by omega), hO.mod hmF (fun k hk e => by have := hv k hk; omega), fun k hk => by have := hv k hk; omega⟩
theorem ItemPost.bad {Z x r A n c w w'} {f : Fr} (h : f = .bad) (hx : Ext w w') : ItemPost Z x r A n c f w tornV w' := by subst h; exact ⟨rfl, hx⟩
theorem ItemPost.wait {Z x r A n c w w' p k} {f : Fr} (h : f = .wait) (hx : Ext w w') : ItemPost Z x r A n c f w (.returned (.tuple #[.agg #[.string p, .int .i8 k, .slice none 0 0], .bool false])) w' := by subst h; exact ⟨hx, _, _, rfl⟩
theorem kint_wrap (k : UInt8) : IntKind.i8.wrap (k.toNat : Int) = kint k := by
  have h : ∀ k : Fin 256, IntKind.i8.wrap (k.val : Int) = if k.val < 128 then (k.val : Int) else (k.val : Int) - 256 := by decide +kernel
  exact h ⟨k.toNat, k.toNat_lt⟩
section
variable {Z : Sp} {items : Nat} {ahead b : Bs} {k : UInt8} {N N' M M' : Nat}
theorem fi1 (h : holdsN (kint k) < 0 ∨ 4096 ≤ items) : frontItem Z items ahead k b = .bad := by unfold frontItem; rw [if_pos h]
theorem fi2 (h1 : ¬ (holdsN (kint k) < 0 ∨ 4096 ≤ items)) (h2 : b.length < 5) : frontItem Z items ahead k b = .wait := by unfold frontItem; rw [if_neg h1, if_pos h2]
theorem fi3 (h1 : ¬ (holdsN (kint k) < 0 ∨ 4096 ≤ items)) (h2 : ¬ b.length < 5) (hN : numL ((b.drop 1).take 2) = N) (h3 : ¬ (N + numL ((b.drop 3).take 2) = 65535 ∧ 1 ≤ N ∧ N ≤ 4096)) : frontItem Z items ahead k b = .bad := by
  unfold frontItem; rw [if_neg h1, if_neg h2, hN, if_pos h3]
theorem fi4 (h1 : ¬ (holdsN (kint k) < 0 ∨ 4096 ≤ items)) (h2 : ¬ b.length < 5) (hN : numL ((b.drop 1).take 2) = N) (h3 : N + numL ((b.drop 3).take 2) = 65535 ∧ 1 ≤ N ∧ N ≤ 4096) (h4 : b.length < 5 + N) : frontItem Z items ahead k b = .wait := by
  unfold frontItem; rw [if_neg h1, if_neg h2, hN, if_neg (fun h => h h3), if_pos h4]
theorem fi5 (h1 : ¬ (holdsN (kint k) < 0 ∨ 4096 ≤ items)) (h2 : ¬ b.length < 5) (hN : numL ((b.drop 1).take 2) = N) (h3 : N + numL ((b.drop 3).take 2) = 65535 ∧ 1 ≤ N ∧ N ≤ 4096) (h4 : ¬ b.length < 5 + N) (h5 : Z.ok ((b.drop 5).take N) ahead = false) : frontItem Z items ahead k b = .bad := by
  unfold frontItem; rw [if_neg h1, if_neg h2, hN, if_neg (fun h => h h3), if_neg h4, if_pos h5]
theorem fi6 (h1 : ¬ (holdsN (kint k) < 0 ∨ 4096 ≤ items)) (h2 : ¬ b.length < 5) (hN : numL ((b.drop 1).take 2) = N) (h3 : N + numL ((b.drop 3).take 2) = 65535 ∧ 1 ≤ N ∧ N ≤ 4096) (h4 : ¬ b.length < 5 + N) (h5 : Z.ok ((b.drop 5).take N) ahead = true) (h6 : b.length < 13 + N) : frontItem Z items ahead k b = .wait := by
  unfold frontItem; rw [if_neg h1, if_neg h2, hN, if_neg (fun h => h h3), if_neg h4, if_neg (by simp [h5]), if_pos h6]
theorem fi7 (h1 : ¬ (holdsN (kint k) < 0 ∨ 4096 ≤ items)) (h2 : ¬ b.length < 5) (hN : numL ((b.drop 1).take 2) = N) (h3 : N + numL ((b.drop 3).take 2) = 65535 ∧ 1 ≤ N ∧ N ≤ 4096) (h4 : ¬ b.length < 5 + N) (h5 : Z.ok ((b.drop 5).take N) ahead = true) (h6 : ¬ b.length < 13 + N)
    (hM : numL ((b.drop (5 + N)).take 4) = M) (h7 : ¬ (M + numL ((b.drop (9 + N)).take 4) = 4294967295 ∧ (M : Int) ≤ holdsN (kint k))) : frontItem Z items ahead k b = .bad := by
  unfold frontItem; rw [if_neg h1, if_neg h2, hN, if_neg (fun h => h h3), if_neg h4, if_neg (by simp [h5]), if_neg h6, hM, if_pos h7]
theorem fi8 (h1 : ¬ (holdsN (kint k) < 0 ∨ 4096 ≤ items)) (h2 : ¬ b.length < 5) (hN : numL ((b.drop 1).take 2) = N) (h3 : N + numL ((b.drop 3).take 2) = 65535 ∧ 1 ≤ N ∧ N ≤ 4096) (h4 : ¬ b.length < 5 + N) (h5 : Z.ok ((b.drop 5).take N) ahead = true) (h6 : ¬ b.length < 13 + N)
    (hM : numL ((b.drop (5 + N)).take 4) = M) (h7 : M + numL ((b.drop (9 + N)).take 4) = 4294967295 ∧ (M : Int) ≤ holdsN (kint k)) (h8 : b.length < 21 + N + M) : frontItem Z items ahead k b = .wait := by
  unfold frontItem; rw [if_neg h1, if_neg h2, hN, if_neg (fun h => h h3), if_neg h4, if_neg (by simp [h5]), if_neg h6, hM, if_neg (fun h => h h7), if_pos h8]
theorem fi9 (h1 : ¬ (holdsN (kint k) < 0 ∨ 4096 ≤ items)) (h2 : ¬ b.length < 5) (hN : numL ((b.drop 1).take 2) = N) (h3 : N + numL ((b.drop 3).take 2) = 65535 ∧ 1 ≤ N ∧ N ≤ 4096) (h4 : ¬ b.length < 5 + N) (h5 : Z.ok ((b.drop 5).take N) ahead = true) (h6 : ¬ b.length < 13 + N)
    (hM : numL ((b.drop (5 + N)).take 4) = M) (h7 : M + numL ((b.drop (9 + N)).take 4) = 4294967295 ∧ (M : Int) ≤ holdsN (kint k)) (h8 : ¬ b.length < 21 + N + M) (h9 : numL ((b.drop (13 + N + M)).take 8) ≠ sumB Z (b.take (13 + N + M))) : frontItem Z items ahead k b = .bad := by
  unfold frontItem; rw [if_neg h1, if_neg h2, hN, if_neg (fun h => h h3), if_neg h4, if_neg (by simp [h5]), if_neg h6, hM, if_neg (fun h => h h7), if_neg h8, if_pos h9]
theorem fi10 (h1 : ¬ (holdsN (kint k) < 0 ∨ 4096 ≤ items)) (h2 : ¬ b.length < 5) (hN : numL ((b.drop 1).take 2) = N) (h3 : N + numL ((b.drop 3).take 2) = 65535 ∧ 1 ≤ N ∧ N ≤ 4096) (h4 : ¬ b.length < 5 + N) (h5 : Z.ok ((b.drop 5).take N) ahead = true) (h6 : ¬ b.length < 13 + N)
    (hM : numL ((b.drop (5 + N)).take 4) = M) (h7 : M + numL ((b.drop (9 + N)).take 4) = 4294967295 ∧ (M : Int) ≤ holdsN (kint k)) (h8 : ¬ b.length < 21 + N + M) (h9 : numL ((b.drop (13 + N + M)).take 8) = sumB Z (b.take (13 + N + M))) :
    frontItem Z items ahead k b = .item (21 + N + M) ⟨(b.drop 5).take N, kint k, (b.drop (13 + N)).take M⟩ := by
  unfold frontItem; rw [if_neg h1, if_neg h2, hN, if_neg (fun h => h h3), if_neg h4, if_neg (by simp [h5]), if_neg h6, hM, if_neg (fun h => h h7), if_neg h8, if_neg (fun h => h h9)]
end
set_option maxRecDepth 20000 in
set_option maxHeartbeats 16000000 in
theorem item_any (Z : Sp) (hZ : Z.ok = okP) (r : Nat) (A : Option Addr) (n c : Nat) (x : Rd) (k : UInt8) (t : Bs) (m : Int) (w : World) (hr : RdAt w r A n c x false) (hb : x.b = k :: t) (hn : n ≤ 1073741824) (hm : w.cell? ⟨0, 0, none⟩ = some (.int .i64 m)) (hi : x.items ≤ 1000000) (hsum : x.sum < 18446744073709551616) :
    Calls Tryd.prog 44 #[.pointer (some ⟨r, 0, none⟩)] w (ItemPost Z x r A n c (frontItem Z x.items x.ahead k x.b) w) := by
  have HR := Lib.hid hr
  have HM := Lib.hid hm
  have HSum : Hid (True ∧ x.sum < 18446744073709551616) := ⟨trivial, hsum⟩
  clear hsum
  obtain ⟨d0, d1, d2, d3, d4, d5, d6, f0⟩ := hr.cells
  have hlen := hr.len
  have hn1 : 1 ≤ n := by rw [hlen, hb]; simp
  obtain ⟨g, off, rfl, hg⟩ : ∃ g off, A = some ⟨g, off, none⟩ ∧ g < w.heap.size := by obtain ⟨A', cap, hv, -, hp⟩ := hr.own.form; injection hv with h1; subst h1; exact hp (by omega)
  have hnc : n ≤ c := by obtain ⟨_, _, hv, h2, -⟩ := hr.own.form; injection hv with _ _ h3; omega
  have hrw : r < w.heap.size := hr.lt
  have c0 : w.cell? ⟨g, off, none⟩ = some (.int .u8 (k.toNat : Int)) := by have := hr.own.cells rfl 0 (.int .u8 (k.toNat : Int)) (by rw [hb]; rfl); simpa using this
  have hki := kint_wrap k
  obtain ⟨F, hF⟩ : ∃ F, frontItem Z x.items x.ahead k x.b = F := ⟨_, rfl⟩
  rw [hF]
  have HF := Lib.hid hF
  obtain ⟨K, hK⟩ : ∃ K, kint k = K := ⟨_, rfl⟩
  rw [hK] at hki
  have HK := Lib.hid hK
  have Hb := Lib.hid hb
  have Hlen := Lib.hid hlen
  obtain ⟨H, hH⟩ : ∃ H, holdsN K = H := ⟨_, rfl⟩
  have hH1 : -1 ≤ H ∧ H ≤ 4194304 := by rw [← hH]; unfold holdsN; (repeat' split) <;> omega
  have HH := Lib.hid hH
  clear hr hm hF hb hlen f0 hK hH
  have hz : (zeroValue 50).run Tryd.prog w = .ok (.agg #[.string ⟨#[]⟩, .int .i8 0, .slice none 0 0]) w := by kernel_rfl
  go_enter Tryd.func44, Tryd.ntmps44
  go_wp2_with fail
  refine (holds_any _ _).mono ?_
  rintro e w1 ⟨rfl, rfl⟩
  rw [HH.out]
  have HX1 : Hid (Ext w (w.alloc (.cells #[.string ⟨#[]⟩, .int .i8 K, .slice none 0 0] 50))) := (Ext.refl _).alloc _
  have HI1 : Hid (ItAt (w.alloc (.cells #[.string ⟨#[]⟩, .int .i8 K, .slice none 0 0] 50)) w.heap.size (.string ⟨#[]⟩) K (.slice none 0 0)) := Lib.hid (heap_alloc_new w _)
  by_cases h1 : 0 ≤ H
  · by_cases h2 : (x.items : Int) < 4096
    · have H1 : Hid (¬ (holdsN (kint k) < 0 ∨ 4096 ≤ x.items)) := Lib.hid (by rw [HK.out, HH.out]; omega)
      go_wp2_with fail
      refine (must_yes _).mono ?_
      rintro e w2 ⟨rfl, rfl⟩
      go_wp2_with fail
      obtain ⟨w2, hw2⟩ : ∃ W, w.alloc (.cells #[.string ⟨#[]⟩, .int .i8 K, .slice none 0 0] 50) = W := ⟨_, rfl⟩
      rw [hw2] at HX1 HI1 ⊢
      clear hw2
      refine (again_any r _ n c x false 2 1 1 4096 w2 (HR.out.ext HX1.out) hn (.inl rfl) (by decide) (by decide) (by decide) (by decide)).mono ?_
      rintro e w3 ⟨hx3, hag⟩
      have HX3 := Lib.hid (HX1.out.trans hx3)
      have HI3 := Lib.hid (HI1.out.ext hx3)
      clear hx3 HI1 HX1
      split at hag
      · rename_i hsh
        subst hag
        have HF2 : Hid (F = .wait) := Lib.hid (by rw [← HF.out]; exact fi2 H1.out (by omega))
        clear hsh
        obtain ⟨q0, q1, q2, qf⟩ := HI3.out.cells
        have qf0 := qf 0
        have qf1 := qf 1
        have qf2 := qf 2
        go_wp2_with fail
        obtain ⟨hit, hxe⟩ := HI3.out.again (p' := .string ⟨#[]⟩) (k' := K) (d' := .slice none 0 0) HX3.out (Nat.le_refl _)
        obtain ⟨q0, q1, q2, -⟩ := hit.cells
        exact bodyPost_ret (v := .tuple #[.agg #[.string ⟨#[]⟩, .int .i8 K, .slice none 0 0], .bool false]) (by simp [results, Tryd.results44, go_sem, q0, q1, q2]) rfl (ItemPost.wait HF2.out hxe)
      · rename_i hsh
        split at hag
        · rename_i hgd
          subst hag
          obtain ⟨N, hN⟩ : ∃ N, numL ((x.b.drop 1).take 2) = N := ⟨_, rfl⟩
          rw [hN] at hgd ⊢
          have H2 : Hid (¬ x.b.length < 5) := Lib.hid (by omega)
          have H3 : Hid (N + numL ((x.b.drop 3).take 2) = 65535 ∧ 1 ≤ N ∧ N ≤ 4096) := Lib.hid ⟨hgd.1, hgd.2.1, by have := hgd.2.2; omega⟩
          have HN := Lib.hid hN
          have hN1 := hgd.2.1
          have hN2 : N ≤ 4096 := by have := hgd.2.2; omega
          clear hsh hgd hN
          obtain ⟨e0, e1, e2, e3, e4, e5, e6, ef⟩ := (HR.out.ext HX3.out).cells
          obtain ⟨q0, q1, q2, qf⟩ := HI3.out.cells
          have qf0 := qf 0
          have qf1 := qf 1
          have qf2 := qf 2
          by_cases h4 : n < 5 + N
          · have h4' : (n : Int) < 5 + (N : Int) := by omega
            have HF2 : Hid (F = .wait) := Lib.hid (by rw [← HF.out]; exact fi4 H1.out H2.out HN.out H3.out (by have := Hlen.out; omega))
            clear h4
            go_wp2_with fail
            obtain ⟨hit, hxe⟩ := HI3.out.again (p' := .string ⟨#[]⟩) (k' := K) (d' := .slice none 0 0) HX3.out (Nat.le_refl _)
            obtain ⟨q0, q1, q2, -⟩ := hit.cells
            exact bodyPost_ret (v := .tuple #[.agg #[.string ⟨#[]⟩, .int .i8 K, .slice none 0 0], .bool false]) (by simp [results, Tryd.results44, go_sem, q0, q1, q2]) rfl (ItemPost.wait HF2.out hxe)
          · have h4' : ¬ ((n : Int) < 5 + (N : Int)) := by omega
            have H4 : Hid (¬ x.b.length < 5 + N) := Lib.hid (by have := Hlen.out; omega)
            have hcv := run_bytes_string (((HR.out.bytes.part (i := 5) (k := N) (by omega)).ext HX3.out)) (c - 5)
            go_wp2_with fail
            clear hcv
            obtain ⟨P, hP⟩ : ∃ P, (x.b.drop 5).take N = P := ⟨_, rfl⟩
            have HP := Lib.hid hP
            rw [hP]
            have hPl : P.length ≤ 4096 := by rw [← hP]; simp; omega
            have HI4 := Lib.hid (HI3.out.setPath (.string (mkB P)))
            have HX4 : Hid (Ext w (w3.setCell ⟨w.heap.size, 0, none⟩ (.string (mkB P)))) := HX3.out.setCell _ _ (Nat.le_refl _)
            obtain ⟨w4, hw4⟩ : ∃ W, w3.setCell ⟨w.heap.size, 0, none⟩ (.string (mkB P)) = W := ⟨_, rfl⟩
            rw [hw4] at HI4 HX4 ⊢
            clear hw4 HI3 HX3 e0 e1 e2 e3 e4 e5 e6 ef q0 q1 q2 qf qf0 qf1 qf2 hP
            have e4 : ∀ wx, Ext w4 wx → wx.cell? ⟨r, 4, none⟩ = some (.string ⟨x.ahead.toArray⟩) := fun wx hx => ((HR.out.ext (HX4.out.trans hx)).cells).2.2.2.2.1
            have q0 : ∀ wx, Ext w4 wx → wx.cell? ⟨w.heap.size, 0, none⟩ = some (.string (mkB P)) := fun wx hx => ((HI4.out.ext hx).cells).1
            refine region_lin (fun wx => Ext w4 wx) 7 [(0, 3), (1, 0), (2, 3), (3, 3), (4, 3), (5, 0), (6, 1), (7, 2)] ?_ (by kernel_rfl) (by kernel_rfl) ?_ (fun _ _ _ _ _ h => h) ((Ext.refl _).drew) ?_
            rotate_left
            (simp only [planOps, List.mapM_cons, List.mapM_nil, List.getElem?_toArray, List.getElem?_cons_zero, List.getElem?_cons_succ, Option.map_some, Option.bind_eq_bind, Option.bind_some, Option.pure_def]; rfl)
            intro wd hwd hxd
            repeat (first | (refine lin_take ?_ (by rfl) (fun wx hx => ?_) ?_; rotate_left; go_simp; (with_reducible rfl); try simp only [Act.put, List.setIfInBounds_toArray, List.set_cons_zero, List.set_cons_succ]) | (refine lin_skip (by rfl) ?_; try simp only [Act.put, List.setIfInBounds_toArray, List.set_cons_zero, List.set_cons_succ]) | (refine lin_take3 ?_ (by rfl) (fun wx hx => ?_) ?_; rotate_left; go_simp; (with_reducible rfl); try simp only [Act.put, List.setIfInBounds_toArray, List.set_cons_zero, List.set_cons_succ]) | (refine lin_skip3 (by rfl) ?_; try simp only [Act.put, List.setIfInBounds_toArray, List.set_cons_zero, List.set_cons_succ]))
            refine lin_run (by rfl) (fun K2 hK2 => ?_)
            go_simp
            refine (cleanp_any P x.ahead m wd (by omega) (((HX4.out.trans hwd).cell (by have := (World.block_lt_of_cell? w _ HM.out); simpa using this)).trans HM.out)).mono ?_
            rintro e w5 ⟨rfl, hx5⟩
            have HX5 := Lib.hid (HX4.out.trans (hwd.trans hx5))
            have HI5 := Lib.hid (HI4.out.ext (hwd.trans hx5))
            refine hK2 _ _ (hwd.trans hx5) ?_
            clear hK2 e4 q0 hwd hxd hx5 HI4 HX4
            try simp only [Act.put, List.setIfInBounds_toArray, List.set_cons_zero, List.set_cons_succ]
            cases hok : okP P x.ahead with
            | false =>
              refine lin_last (by rfl) (fun KC hK => ?_)
              go_simp
              refine (must_no _).mono ?_
              rintro e w6 ⟨rfl, rfl⟩
              exact ⟨rfl, ItemPost.bad (by rw [← HF.out]; exact fi5 H1.out H2.out HN.out H3.out H4.out (by rw [hZ, HP.out]; exact hok)) HX5.out⟩
            | true =>
              have H5 : Hid (Z.ok ((x.b.drop 5).take N) x.ahead = true) := Lib.hid (by rw [hZ, HP.out]; exact hok)
              clear hok
              refine lin_last (by rfl) (fun KC hK => ?_)
              go_simp
              refine (must_yes _).mono ?_
              rintro e w6 ⟨rfl, rfl⟩
              refine hK _ _ trivial ?_
              clear hK
              go_wp2_with fail
              rw [show (5 : Int) + (N : Int) = ((5 + N : Nat) : Int) from by omega]
              have hH2 := hH1.2
              refine (again_any r _ n c x false 4 (5 + N) 0 H w5 (HR.out.ext HX5.out) hn (.inr rfl) (by omega) (by decide) h1 hH2).mono ?_
              rintro e w6 ⟨hx6, hag⟩
              have HX6 := Lib.hid (HX5.out.trans hx6)
              have HI6 := Lib.hid (HI5.out.ext hx6)
              clear hx6 HI5 HX5
              rw [show 5 + N + 2 * 4 = 13 + N from by omega, show 5 + N + 4 = 9 + N from by omega] at hag
              split at hag
              · rename_i hsh
                subst hag
                have HF2 : Hid (F = .wait) := Lib.hid (by rw [← HF.out]; exact fi6 H1.out H2.out HN.out H3.out H4.out H5.out hsh)
                clear hsh
                obtain ⟨q0, q1, q2, qf⟩ := HI6.out.cells
                have qf0 := qf 0
                have qf1 := qf 1
                have qf2 := qf 2
                go_wp2_with fail
                obtain ⟨hit, hxe⟩ := HI6.out.again (p' := .string (mkB P)) (k' := K) (d' := .slice none 0 0) HX6.out (Nat.le_refl _)
                obtain ⟨q0, q1, q2, -⟩ := hit.cells
                exact bodyPost_ret (v := .tuple #[.agg #[.string (mkB P), .int .i8 K, .slice none 0 0], .bool false]) (by simp [results, Tryd.results44, go_sem, q0, q1, q2]) rfl (ItemPost.wait HF2.out hxe)
              · rename_i hsh
                split at hag
                · rename_i hgd
                  subst hag
                  obtain ⟨M, hM⟩ : ∃ M, numL ((x.b.drop (5 + N)).take 4) = M := ⟨_, rfl⟩
                  rw [hM] at hgd ⊢
                  have HMM := Lib.hid hM
                  have hM1 : M ≤ 4194304 := by have := hgd.2.2; omega
                  have H6 : Hid (¬ x.b.length < 13 + N) := Lib.hid hsh
                  have H7 : Hid (M + numL ((x.b.drop (9 + N)).take 4) = 4294967295 ∧ (M : Int) ≤ holdsN (kint k)) := Lib.hid ⟨hgd.1, by rw [HK.out, HH.out]; exact hgd.2.2⟩
                  clear hsh hgd hM
                  obtain ⟨e0, e1, e2, e3, e4, e5, e6, ef⟩ := (HR.out.ext HX6.out).cells
                  obtain ⟨q0, q1, q2, qf⟩ := HI6.out.cells
                  have qf0 := qf 0
                  have qf1 := qf 1
                  have qf2 := qf 2
                  obtain ⟨Wh, hWh⟩ : ∃ W : Nat, 13 + N + M = W := ⟨_, rfl⟩
                  have hwh : (13 : Int) + (N : Int) + (M : Int) = (Wh : Int) := by omega
                  have hWl : Wh ≤ 4200000 := by omega
                  have HWh := Lib.hid hWh
                  clear hWh
                  by_cases h8 : n < Wh + 8
                  · have h8' : ¬ ((Wh : Int) + 8 ≤ (n : Int)) := by omega
                    have HF2 : Hid (F = .wait) := Lib.hid (by rw [← HF.out]; exact fi8 H1.out H2.out HN.out H3.out H4.out H5.out H6.out HMM.out H7.out (by have := Hlen.out; have := HWh.out; omega))
                    clear h8
                    go_wp2_with fail
                    obtain ⟨hit, hxe⟩ := HI6.out.again (p' := .string (mkB P)) (k' := K) (d' := .slice none 0 0) HX6.out (Nat.le_refl _)
                    obtain ⟨q0, q1, q2, -⟩ := hit.cells
                    exact bodyPost_ret (v := .tuple #[.agg #[.string (mkB P), .int .i8 K, .slice none 0 0], .bool false]) (by simp [results, Tryd.results44, go_sem, q0, q1, q2]) rfl (ItemPost.wait HF2.out hxe)
                  · have h8' : (Wh : Int) + 8 ≤ (n : Int) := by omega
                    have H8 : Hid (¬ x.b.length < 21 + N + M) := Lib.hid (by have := Hlen.out; have := HWh.out; omega)
                    clear h8
                    go_wp2_with fail
                    have a1 : IntKind.i64.wrap ((Wh : Int) + 8) = (Wh : Int) + 8 := IntWalk.i64_in _ (by omega)
                    have a2 : ((Wh : Int) + 8).toNat = Wh + 8 := by omega
                    have a3 : (0 : Int) ≤ (Wh : Int) + 8 := by omega
                    have a4 : (Wh : Int) ≤ (Wh : Int) + 8 := by omega
                    have a5 : (Wh : Int) + 8 ≤ (c : Int) := by omega
                    have a6 : (Wh : Int) ≤ (c : Int) := by omega
                    have a7 : Wh + 8 - Wh = 8 := by omega
                    have a8 : ¬ c = Wh := by omega
                    have a9 : ¬ c = 13 + N := by have := HWh.out; omega
                    have k0 : ∀ wx, Ext w6 wx → wx.cell? ⟨r, 0, none⟩ = some (.slice (some ⟨g, off, none⟩) n c) := fun wx hx => ((HR.out.ext (HX6.out.trans hx)).cells).1
                    have HP8 : Hid (BySl w6 (some ⟨g, off + Wh, none⟩) 8 ((x.b.drop Wh).take 8)) := Lib.hid ((HR.out.bytes.part (i := Wh) (k := 8) (by omega)).ext HX6.out)
                    have HPs : Hid (BySl w6 (some ⟨g, off, none⟩) Wh (x.b.take Wh)) := Lib.hid (by have := (HR.out.bytes.part (i := 0) (k := Wh) (by omega)).ext HX6.out; simpa using this)
                    obtain ⟨nu, hnu⟩ : ∃ z, numL ((x.b.drop Wh).take 8) = z := ⟨_, rfl⟩
                    obtain ⟨su, hsu⟩ : ∃ z, sumB Z (x.b.take Wh) = z := ⟨_, rfl⟩
                    have Hnu := Lib.hid hnu
                    have Hsu := Lib.hid hsu
                    clear hnu hsu e0 e1 e2 e3 e4 e5 e6 q0 q1 q2 qf qf0 qf1 qf2
                    refine region_lin (fun wx => Ext w6 wx) 100000 [(0, 3), (1, 3), (2, 3), (3, 0), (4, 3), (5, 3), (6, 3), (7, 3), (9, 3), (10, 3), (11, 3), (12, 0), (13, 3), (14, 3), (8, 1), (15, 1), (16, 3), (17, 1)] ?_ (by kernel_rfl) (by kernel_rfl) ?_ (fun _ _ _ _ _ h => h) ((Ext.refl _).drew) ?_
                    rotate_left
                    (simp only [planOps, List.mapM_cons, List.mapM_nil, List.getElem?_toArray, List.getElem?_cons_zero, List.getElem?_cons_succ, Option.map_some, Option.bind_eq_bind, Option.bind_some, Option.pure_def]; rfl)
                    intro wd hwd hxd
                    repeat (first | (refine lin_take ?_ (by rfl) (fun wx hx => ?_) ?_; rotate_left; go_simp; (with_reducible rfl); try simp only [Act.put, List.setIfInBounds_toArray, List.set_cons_zero, List.set_cons_succ]) | (refine lin_skip (by rfl) ?_; try simp only [Act.put, List.setIfInBounds_toArray, List.set_cons_zero, List.set_cons_succ]) | (refine lin_take3 ?_ (by rfl) (fun wx hx => ?_) ?_; rotate_left; go_simp; (with_reducible rfl); try simp only [Act.put, List.setIfInBounds_toArray, List.set_cons_zero, List.set_cons_succ]) | (refine lin_skip3 (by rfl) ?_; try simp only [Act.put, List.setIfInBounds_toArray, List.set_cons_zero, List.set_cons_succ]))
                    refine lin_run (by rfl) (fun KC hK => ?_)
                    go_simp
                    refine (number_any (some ⟨g, off + Wh, none⟩) 8 _ _ wd (HP8.out.ext hwd) (by decide)).mono ?_
                    rintro e w7 ⟨rfl, rfl⟩
                    rw [Hnu.out]
                    refine hK _ _ hwd ?_
                    clear hK
                    try simp only [Act.put, List.setIfInBounds_toArray, List.set_cons_zero, List.set_cons_succ]
                    repeat (first | (refine lin_take ?_ (by rfl) (fun wx hx => ?_) ?_; rotate_left; go_simp; (with_reducible rfl); try simp only [Act.put, List.setIfInBounds_toArray, List.set_cons_zero, List.set_cons_succ]) | (refine lin_skip (by rfl) ?_; try simp only [Act.put, List.setIfInBounds_toArray, List.set_cons_zero, List.set_cons_succ]) | (refine lin_take3 ?_ (by rfl) (fun wx hx => ?_) ?_; rotate_left; go_simp; (with_reducible rfl); try simp only [Act.put, List.setIfInBounds_toArray, List.set_cons_zero, List.set_cons_succ]) | (refine lin_skip3 (by rfl) ?_; try simp only [Act.put, List.setIfInBounds_toArray, List.set_cons_zero, List.set_cons_succ]))
                    refine lin_run (by rfl) (fun KC hK => ?_)
                    go_simp
                    refine (sum_any Z (some ⟨g, off, none⟩) Wh _ _ wd (HPs.out.ext hwd) (by omega)).mono ?_
                    rintro e w7 ⟨rfl, rfl⟩
                    rw [Hsu.out]
                    refine hK _ _ hwd ?_
                    clear hK
                    try simp only [Act.put, List.setIfInBounds_toArray, List.set_cons_zero, List.set_cons_succ]
                    repeat (first | (refine lin_take ?_ (by rfl) (fun wx hx => ?_) ?_; rotate_left; go_simp; (with_reducible rfl); try simp only [Act.put, List.setIfInBounds_toArray, List.set_cons_zero, List.set_cons_succ]) | (refine lin_skip (by rfl) ?_; try simp only [Act.put, List.setIfInBounds_toArray, List.set_cons_zero, List.set_cons_succ]) | (refine lin_take3 ?_ (by rfl) (fun wx hx => ?_) ?_; rotate_left; go_simp; (with_reducible rfl); try simp only [Act.put, List.setIfInBounds_toArray, List.set_cons_zero, List.set_cons_succ]) | (refine lin_skip3 (by rfl) ?_; try simp only [Act.put, List.setIfInBounds_toArray, List.set_cons_zero, List.set_cons_succ]))
                    have HX7 := Lib.hid (HX6.out.trans hwd)
                    have HI7 := Lib.hid (HI6.out.ext hwd)
                    have Hwd := Lib.hid hwd
                    clear k0 hwd hxd
                    by_cases h9 : nu = su
                    · have H9 : Hid (numL ((x.b.drop (13 + N + M)).take 8) = sumB Z (x.b.take (13 + N + M))) := Lib.hid (by rw [HWh.out, Hnu.out, Hsu.out]; exact h9)
                      have b9 : ((nu : Int) == (su : Int)) = true := by rw [h9]; simp
                      clear h9
                      refine lin_run (by rfl) (fun KC hK => ?_)
                      go_simp
                      refine (must_yes _).mono ?_
                      rintro e w7 ⟨rfl, rfl⟩
                      refine hK _ _ Hwd.out ?_
                      clear hK
                      refine lin_nil ?_
                      obtain ⟨D, hD⟩ : ∃ D, (x.b.drop (13 + N)).take M = D := ⟨_, rfl⟩
                      have HD := Lib.hid hD
                      have hDl : D.length = M := by rw [← hD]; simp; have := Hlen.out; have := HWh.out; omega
                      have HDl := Lib.hid hDl
                      have HPD : Hid (BySl wd (some ⟨g, off + (13 + N), none⟩) M D) := Lib.hid (by have := (HR.out.bytes.part (i := 13 + N) (k := M) (by have := HWh.out; omega)).ext HX7.out; rwa [hD] at this)
                      have HF2 : Hid (F = .item (21 + N + M) ⟨P, K, D⟩) := Lib.hid (by rw [← HF.out, fi10 H1.out H2.out HN.out H3.out H4.out H5.out H6.out HMM.out H7.out H8.out H9.out, HP.out, HK.out, HD.out])
                      have b1 : Wh - (13 + N) = M := by have := HWh.out; omega
                      have b2 : ((13 : Int) + (N : Int)) ≤ (Wh : Int) := by have := HWh.out; omega
                      have b3 : ((13 : Int) + (N : Int)).toNat = 13 + N := by omega
                      clear hD hDl
                      obtain ⟨e0, e1, e2, e3, e4, e5, e6, ef⟩ := (HR.out.ext HX7.out).cells
                      obtain ⟨q0, q1, q2, qf⟩ := HI7.out.cells
                      have qf2 := qf 2
                      obtain ⟨i, hi5, hz5, hsz5, hby5⟩ := info_parts Tryd.info5
                      go_wp2_with (at_builtin; refine wpList_append_own_any _ rfl (.const (.slice none 0 0)) (.tmp 113) 26 rfl 5 i _ 1 1 Tryd.underlying26 hi5 hz5 hsz5 hby5 rfl (by decide) (.slice none 0 0) 0 [] rfl (Own.nil wd 5 1) (some ⟨g, off + (13 + N), none⟩) M (c - (13 + N)) (u8v D) rfl (by rw [u8v_len, HDl.out, Nat.mul_one]) ?c1 (u8v_one D) (by unfold maxLen; omega) (by omega) ?c2)
                      case c1 =>
                        intro hM0
                        obtain ⟨b', o', e, -, hc⟩ := HPD.out.2 hM0
                        injection e with e
                        injection e with e1' e2'
                        subst e1' e2'
                        exact ⟨_, rfl, fun j u hu => by rw [add_off]; simp only [u8v, List.getElem?_map, Option.map_eq_some_iff] at hu; obtain ⟨c', hc', rfl⟩ := hu; exact hc j c' hc'⟩
                      case c2 =>
                        intro v' w8 ho hgr hv'
                        have hx8 : Ext wd w8 := (Ext.refl wd).grown hgr (fun k e => by simp [Value.ownBlock] at e)
                        have HX8 := Lib.hid (HX7.out.trans hx8)
                        have HI8 := Lib.hid (HI7.out.ext hx8)
                        have HO8 : Hid (Own w8 5 1 v' M (u8v D)) := Lib.hid (by simpa using ho)
                        have HV : Hid (∀ k, v'.ownBlock = some k → w.heap.size + 1 ≤ k) := Lib.hid (fun k hk => by
                          rcases hv' with h | h
                          · rw [h] at hk; simp [Value.ownBlock] at hk
                          · rw [h] at hk; injection hk with hk; have := (HX7.out).size; have := HI7.out.lt; omega)
                        obtain ⟨D', dc, rfl, -, -⟩ := HO8.out.form
                        clear ho hgr hv' hx8 e0 e1 e2 e3 e4 e5 e6 ef q0 q1 q2 qf qf2
                        obtain ⟨q0, q1, q2, qf⟩ := HI8.out.cells
                        have qf2 := qf 2
                        go_wp2_with fail
                        have hri : r ≠ w.heap.size := by omega
                        have HI9 := Lib.hid (HI8.out.setData (.slice D' M dc))
                        have HX9 : Hid (Ext w (w8.setCell ⟨w.heap.size, 2, none⟩ (.slice D' M dc))) := HX8.out.setCell _ _ (Nat.le_refl _)
                        have HO9 : Hid (Own (w8.setCell ⟨w.heap.size, 2, none⟩ (.slice D' M dc)) 5 1 (.slice D' M dc) M (u8v D)) := Lib.hid (HO8.out.mod (mod_set _ _ _ _) (fun k hk e => by have := HV.out k hk; omega))
                        obtain ⟨w9, hw9⟩ : ∃ W, w8.setCell ⟨w.heap.size, 2, none⟩ (.slice D' M dc) = W := ⟨_, rfl⟩
                        rw [hw9] at HI9 HX9 HO9 ⊢
                        clear hw9 HI8 HX8 HO8 q0 q1 q2 qf qf2
                        rw [show (Wh : Int) + 8 = ((Wh + 8 : Nat) : Int) from by omega]
                        refine (gone_any Z r g off n c (Wh + 8) x false w9 (HR.out.ext HX9.out) (by omega) (by omega) HSum.out.2).mono ?_
                        rintro e w10 ⟨rfl, hr10, hm10⟩
                        have HR10 := Lib.hid hr10
                        have HM10 := Lib.hid hm10
                        have HI10 := Lib.hid (HI9.out.mod hm10 (fun e => hri e.symm))
                        have HO10 := Lib.hid (HO9.out.mod hm10 (fun k hk e => by have := HV.out k hk; omega))
                        obtain ⟨-, -, -, e3, e4, -, -, ef⟩ := hr10.cells
                        simp only at e3 e4
                        have ef3 := ef 3
                        have HR11 := Lib.hid ((HR10.out.setItems (x.items + 1)).setAhead P)
                        have HIA := Lib.hid ((HI10.out.mod (mod_set w10 r 3 (.int .i64 ((x.items + 1 : Nat) : Int))) (fun e => hri e.symm)))
                        have HIB := Lib.hid (HIA.out.mod (mod_set (w10.setCell ⟨r, 3, none⟩ (.int .i64 ((x.items + 1 : Nat) : Int))) r 4 (.string (mkB P))) (fun e => hri e.symm))
                        have hit : ((x.items + 1 : Nat) : Int) = (x.items : Int) + 1 := by omega
                        obtain ⟨-, -, -, -, g4, -, -, gf⟩ := (HR10.out.setItems (x.items + 1)).cells
                        have gf4 := gf 4
                        obtain ⟨p0, p1, p2, pf⟩ := HIA.out.cells
                        obtain ⟨s0, s1, s2, sf⟩ := HIB.out.cells
                        have sf0 := sf 0
                        have sf1 := sf 1
                        have sf2 := sf 2
                        rw [hit] at gf4 g4 p0 s0 s1 s2 sf0 sf1 sf2
                        clear hr10 hm10 ef gf pf sf p1 p2 hit
                        go_wp2_with fail
                        obtain ⟨z0, z1, z2, hpost⟩ := item_end (A := some ⟨g, off, none⟩) (n := n) (c := c) (Wh + 8) (Mod.trans (T := fun k => k = r) (Mod.mono HX9.out (fun _ _ f => f.elim)) HM10.out (fun _ _ e => e)) HR10.out HI10.out HO10.out HV.out hrw (fun k hk => by simp [Value.ownBlock] at hk; omega) HDl.out (HF2.out.trans (by rw [show 21 + N + M = Wh + 8 from by have := HWh.out; omega])) rfl
                        exact bodyPost_ret (v := .tuple #[.agg #[.string (mkB P), .int .i8 K, .slice D' M dc], .bool true]) (by simp [results, Tryd.results44, go_sem, z0, z1, z2]) rfl hpost
                    · have b9 : ((nu : Int) == (su : Int)) = false := beq_eq_false_iff_ne.2 (by omega)
                      refine lin_run (by rfl) (fun KC hK => ?_)
                      go_simp
                      refine (must_no _).mono ?_
                      rintro e w7 ⟨rfl, rfl⟩
                      exact ⟨rfl, ItemPost.bad (by rw [← HF.out]; exact fi9 H1.out H2.out HN.out H3.out H4.out H5.out H6.out HMM.out H7.out H8.out (by rw [HWh.out, Hnu.out, Hsu.out]; exact h9)) HX7.out⟩
                · subst hag
                  exact ⟨rfl, ItemPost.bad (by rw [← HF.out]; rename_i hbd; exact fi7 H1.out H2.out HN.out H3.out H4.out H5.out hsh rfl (fun h => hbd ⟨h.1, Nat.zero_le _, by rw [HK.out, HH.out] at h; exact h.2⟩)) HX6.out⟩
        · subst hag
          exact ⟨rfl, ItemPost.bad (by rw [← HF.out]; rename_i hbd; exact fi3 H1.out (by omega) rfl (fun h => hbd ⟨h.1, h.2.1, by have := h.2.2; omega⟩)) HX3.out⟩
    · have H1 : Hid (holdsN (kint k) < 0 ∨ 4096 ≤ x.items) := Lib.hid (.inr (by omega))
      have h2' : decide ((x.items : Int) < 4096) = false := decide_eq_false h2
      go_wp2_with fail
      refine (must_no _).mono ?_
      rintro e w2 ⟨rfl, rfl⟩
      exact ⟨rfl, ItemPost.bad (by rw [← HF.out]; exact fi1 H1.out) HX1.out⟩
  · have H1 : Hid (holdsN (kint k) < 0 ∨ 4096 ≤ x.items) := Lib.hid (.inl (by rw [HK.out, HH.out]; omega))
    go_wp2_with fail
    refine (must_no _).mono ?_
    rintro e w2 ⟨rfl, rfl⟩
    exact ⟨rfl, ItemPost.bad (by rw [← HF.out]; exact fi1 H1.out) HX1.out⟩
end Go.Proofs.YtcpnnkkfndgpjaaDoor
