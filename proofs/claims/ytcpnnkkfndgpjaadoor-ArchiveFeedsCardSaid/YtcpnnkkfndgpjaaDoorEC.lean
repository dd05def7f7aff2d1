/- The statement ArchiveFeeds walked. -/
import Derived.Test.YtcpnnkkfndgpjaaDoorEE
namespace Go.Proofs.YtcpnnkkfndgpjaaDoor
open Go.RowKit

/-- What stands when at bytes have been fed to both. -/
structure FInv (Z : Sp) (r1 r2 : Nat) (w : World) (a : Nat) (wx : World) (q : Option Rd) (A1 : Option Addr) (n1 c1 : Nat) (A2 : Option Addr) (n2 c2 : Nat) : Prop where
  ext : Ext w wx
  rs : RS wx r1 A1 n1 c1 q
  ds : DS Z wx r2 A2 n2 c2 q
  le1 : n1 ≤ a
  le2 : n2 ≤ a
  o1 : ∀ k, (Value.slice A1 n1 c1).ownBlock = some k → w.heap.size ≤ k
  o2 : ∀ k, (Value.slice A2 n2 c2).ownBlock = some k → w.heap.size ≤ k
  ap : ∀ k, (Value.slice A1 n1 c1).ownBlock = some k → (Value.slice A2 n2 c2).ownBlock ≠ some k
section
variable {Z : Sp} {r1 r2 a n1 c1 n2 c2 : Nat} {w wx w' : World} {q : Option Rd} {A1 A2 : Option Addr} {S : Nat → Prop}
theorem FInv.mod (h : FInv Z r1 r2 w a wx q A1 n1 c1 A2 n2 c2) (hm : Mod S wx w') (hS : ∀ k, S k → w.heap.size ≤ k ∧ k ≠ r1 ∧ k ≠ r2 ∧ (Value.slice A1 n1 c1).ownBlock ≠ some k ∧ (Value.slice A2 n2 c2).ownBlock ≠ some k) : FInv Z r1 r2 w a w' q A1 n1 c1 A2 n2 c2 :=
  { ext := h.ext.fresh hm (fun k hk => (hS k hk).1)
    rs := h.rs.mod hm (fun s => (hS _ s).2.1 rfl) (fun _ hk s => (hS _ s).2.2.2.1 hk)
    ds := h.ds.mod hm (fun s => (hS _ s).2.2.1 rfl) (fun _ hk s => (hS _ s).2.2.2.2 hk)
    le1 := h.le1, le2 := h.le2, o1 := h.o1, o2 := h.o2, ap := h.ap }
theorem FInv.exts (h : FInv Z r1 r2 w a wx q A1 n1 c1 A2 n2 c2) (hm : Ext wx w') : FInv Z r1 r2 w a w' q A1 n1 c1 A2 n2 c2 := h.mod hm (fun _ f => f.elim)
end
/-- The pieces of a turn: our Feed, then the document's. -/
theorem FInv.fed {Z : Sp} {r1 r2 a M n1 c1 n2 c2 n1' c1' n2' c2' : Nat} {w wr w1 w2 w3 : World} {q q' : Option Rd} {A1 A2 A1' A2' : Option Addr} (h : FInv Z r1 r2 w a wr q A1 n1 c1 A2 n2 c2) (h1 : w.heap.size ≤ r1) (h2 : w.heap.size ≤ r2) (hx : Ext wr w1)
    (m2 : Mod (fun k => k = r1 ∨ (Value.slice A1 n1 c1).ownBlock = some k) w1 w2) (m3 : Mod (fun k => k = r2 ∨ (Value.slice A2 n2 c2).ownBlock = some k) w2 w3)
    (s2 : RS w2 r1 A1' n1' c1' q') (d3 : DS Z w3 r2 A2' n2' c2' q') (l1 : n1' ≤ n1 + M) (l2 : n2' ≤ n2 + M)
    (o1 : ∀ k, (Value.slice A1' n1' c1').ownBlock = some k → (Value.slice A1 n1 c1).ownBlock = some k ∨ w1.heap.size ≤ k) (o2 : ∀ k, (Value.slice A2' n2' c2').ownBlock = some k → (Value.slice A2 n2 c2).ownBlock = some k ∨ w2.heap.size ≤ k) :
    FInv Z r1 r2 w (a + M) w3 q' A1' n1' c1' A2' n2' c2' := by
  have e1 := h.ext.size
  have e2 := hx.size
  have e3 := m2.size
  have b1 := h.rs.olt
  have b2 := h.ds.olt
  have g1 := h.rs.lt
  have g2 := h.ds.lt
  have hle1 := h.le1
  have hle2 := h.le2
  have hrr : r1 ≠ r2 := fun e => by
    obtain ⟨cs, k1⟩ := h.rs.blk
    obtain ⟨ds, k2⟩ := h.ds.blk
    rw [e, k2] at k1; injection k1 with k1; injection k1 with _ k1; exact absurd k1 (by decide)
  have ho2r : (Value.slice A2 n2 c2).ownBlock ≠ some r1 := fun e => by
    obtain ⟨cs, k1⟩ := h.rs.blk
    obtain ⟨xs, k2⟩ := h.ds.own
    obtain ⟨cur, k3⟩ := k2.ty e
    rw [k3] at k1; injection k1 with k1; injection k1 with _ k1; exact absurd k1 (by decide)
  refine ⟨((h.ext.trans hx).fresh m2 (fun k hk => ?_)).fresh m3 (fun k hk => ?_), s2.mod m3 ?_ (fun k hk s => ?_), d3, by omega, by omega, fun k hk => ?_, fun k hk => ?_, fun k hk hk2 => ?_⟩
  · rcases hk with rfl | hk
    · exact h1
    · exact h.o1 k hk
  · rcases hk with rfl | hk
    · exact h2
    · exact h.o2 k hk
  · rintro (e | e)
    · exact hrr e
    · exact ho2r e
  · rcases s with rfl | s
    · rcases o1 k hk with e | e
      · obtain ⟨cs, k1⟩ := h.ds.blk
        obtain ⟨xs, k2⟩ := h.rs.own
        obtain ⟨cur, k3⟩ := k2.ty e
        rw [k3] at k1; injection k1 with k1; injection k1 with _ k1; exact absurd k1 (by decide)
      · omega
    · have := b2 k s
      rcases o1 k hk with e | e
      · exact h.ap k e s
      · omega
  · rcases o1 k hk with e | e
    · exact h.o1 k e
    · omega
  · rcases o2 k hk with e | e
    · exact h.o2 k e
    · omega
  · have := s2.olt k hk
    rcases o1 k hk with e | e
    · have := b1 k e
      rcases o2 k hk2 with e' | e'
      · exact h.ap k e e'
      · omega
    · rcases o2 k hk2 with e' | e'
      · have := b2 k e'
        omega
      · omega
/-- The document's reader is not touched by our Feed. -/
theorem FInv.doc {Z : Sp} {r1 r2 a n1 c1 n2 c2 : Nat} {w wr w1 w2 : World} {q : Option Rd} {A1 A2 : Option Addr} (h : FInv Z r1 r2 w a wr q A1 n1 c1 A2 n2 c2) (hx : Ext wr w1)
    (m2 : Mod (fun k => k = r1 ∨ (Value.slice A1 n1 c1).ownBlock = some k) w1 w2) : DS Z w2 r2 A2 n2 c2 q := by
  refine (h.ds.mod hx (fun f => f) (fun _ _ f => f)).mod m2 ?_ (fun k hk => ?_)
  · rintro (e | e)
    · obtain ⟨cs, k1⟩ := h.rs.blk
      obtain ⟨ds, k2⟩ := h.ds.blk
      rw [← e, k2] at k1; injection k1 with k1; injection k1 with _ k1; exact absurd k1 (by decide)
    · obtain ⟨cs, k1⟩ := h.ds.blk
      obtain ⟨xs, k2⟩ := h.rs.own
      obtain ⟨cur, k3⟩ := k2.ty e
      rw [k3] at k1; injection k1 with k1; injection k1 with _ k1; exact absurd k1 (by decide)
  · rintro (e | e)
    · obtain ⟨cs, k1⟩ := h.rs.blk
      obtain ⟨xs, k2⟩ := h.ds.own
      obtain ⟨cur, k3⟩ := k2.ty hk
      rw [e, k1] at k3; injection k3 with k3; injection k3 with _ k3; exact absurd k3 (by decide)
    · exact h.ap k e hk
theorem front_data {Z : Sp} {items sum : Nat} {ahead b : Bs} {n : Nat} {x : It} (h : front Z items ahead sum b = .item n x) : x.data.length ≤ b.length := by
  cases b with
  | nil => cases h
  | cons k r =>
    change (if k = 255 then frontEnd Z items sum (k :: r) else frontItem Z items ahead k (k :: r)) = _ at h
    split at h
    · unfold frontEnd at h
      repeat' split at h
      all_goals cases h
    · unfold frontItem at h
      repeat' split at h
      all_goals cases h
      simp only [List.length_take, List.length_drop]
      omega
theorem stp_data {Z : Sp} {x z : Rd} {i : It} (h : stp Z x = .go (some i) z) : i.data.length ≤ x.b.length := by
  unfold stp at h
  split at h
  · split at h
    · split at h
      · cases h
      · cases h
    · cases h
  · split at h
    · split at h <;> cases h
    · split at h
      · cases h
      · cases h
      · rename_i hf
        cases h
        exact front_data hf
      · cases h
theorem runs_data {Z : Sp} {x : Rd} {l : List It} {q : Option Rd} (h : Runs Z x l q) : ∀ i ∈ l, i.data.length ≤ x.b.length := by
  induction h with
  | stop h => intro i hi; cases hi
  | tear h => intro i hi; cases hi
  | @step r r' o l q h k ih =>
    intro i hi
    have h1 := stp_len h
    cases o with
    | none => have := ih i (by simpa using hi); omega
    | some j =>
      rcases List.mem_cons.1 (by simpa using hi : i ∈ j :: l) with rfl | hi
      · exact stp_data h
      · have := ih i hi; omega
theorem RunsQ.data {Z : Sp} {w : World} {r n c : Nat} {A : Option Addr} {q q1 : Option Rd} {pc : Bs} {l : List It} (h : RunsQ Z q pc l q1) (hr : RS w r A n c q) : ∀ i ∈ l, i.data.length ≤ n + pc.length := by
  cases q with
  | some y =>
    intro i hi
    have := runs_data h i hi
    have e : (y.on pc).b.length = n + pc.length := by show (y.b ++ pc).length = _; rw [List.length_append, hr.1.len]
    omega
  | none => rw [h.1]; intro i hi; cases hi
theorem itv_dat : ∀ (vs : List IV) (k : Nat) (i : IV), vs[k]? = some i → (itv vs)[k * 3 + 2]? = some i.dat
  | [], k, i, h => by simp at h
  | v :: vs, 0, i, h => by
    have e : v = i := by simpa using h
    subst e
    rfl
  | v :: vs, k + 1, i, h => by
    have e : vs[k]? = some i := by simpa using h
    have := itv_dat vs k i e
    rw [show (k + 1) * 3 + 2 = k * 3 + 2 + 3 from by omega]
    exact this
def zs30 : List Value := List.replicate 30 (.int .u8 0)
theorem zs30_len : zs30.length = 30 * 1 := by simp [zs30]
theorem zs30_one : ∀ u ∈ zs30, u.oneCell' = true := fun u hu => by
  unfold zs30 at hu
  rw [List.mem_replicate] at hu
  obtain ⟨-, rfl⟩ := hu
  rfl
theorem zs30_eq : Builtin.zeroCells (Value.int .u8 0).cells 30 = zs30.toArray := by kernel_rfl
/-- Items that are being spoilt: those from a place on stand still. -/
structure SpInv (LA : Option Addr) (lc : Nat) (vs : List IV) (w5 : World) (k : Nat) (wx : World) : Prop where
  md : Mod (fun j => (Value.slice LA vs.length lc).ownBlock = some j ∨ ∃ i ∈ vs, i.dat.ownBlock = some j) w5 wx
  row : ∃ xs, Own wx 50 3 (.slice LA vs.length lc) vs.length xs ∧ xs.drop (k * 3) = (itv vs).drop (k * 3)
  dat : ∀ i ∈ vs, ∃ ys, Own wx 5 1 i.dat i.x.data.length ys
section
variable {LA : Option Addr} {lc k : Nat} {vs : List IV} {w5 wx w' : World}
theorem Own.apart' {w : World} {v u : Value} {n m : Nat} {xs ys : List Value} {s t : Nat} (h : Own w 50 s v n xs) (h' : Own w 5 t u m ys) {j : Nat} (hj : v.ownBlock = some j) : u.ownBlock ≠ some j := fun e => by
  obtain ⟨c1, k1⟩ := h.ty hj
  obtain ⟨c2, k2⟩ := h'.ty e
  rw [k1] at k2; injection k2 with k2; injection k2 with _ k2; exact absurd k2 (by decide)
theorem SpInv.cell {g off : Nat} {i : IV} (h : SpInv (some ⟨g, off, none⟩) lc vs w5 k wx) (hi : vs[k]? = some i) : wx.cell? ⟨g, off + k * 3 + 2, none⟩ = some i.dat := by
  obtain ⟨xs, h1, h2⟩ := h.row
  have h3 := itv_dat vs k i hi
  have h4 : xs[k * 3 + 2]? = some i.dat := by
    have e := congrArg (fun l : List Value => l[2]?) h2
    simp only [List.getElem?_drop] at e
    rw [e]; exact h3
  have := h1.cells rfl _ _ h4
  rwa [← Nat.add_assoc] at this
theorem SpInv.ext (h : SpInv LA lc vs w5 k wx) (hx : Ext wx w') : SpInv LA lc vs w5 k w' := by
  obtain ⟨xs, h1, h2⟩ := h.row
  exact ⟨h.md.trans hx (fun _ _ f => f.elim), ⟨xs, h1.ext hx, h2⟩, fun i hi => by obtain ⟨ys, hy⟩ := h.dat i hi; exact ⟨ys, hy.ext hx⟩⟩
theorem SpInv.start {w0 : World} (h : ItMine w0 w5 (.slice LA vs.length lc) vs) : SpInv LA lc vs w5 0 w5 := ⟨Mod.refl _ _, ⟨_, h.row, rfl⟩, fun i hi => ⟨_, h.dat i hi⟩⟩
/-- What turns within the rows of an item's bytes. -/
theorem SpInv.in {i : IV} (h : SpInv LA lc vs w5 k wx) (hi : i ∈ vs) (hm : Mod (fun j => i.dat.ownBlock = some j) wx w') (hl : RowsLike wx w') : SpInv LA lc vs w5 k w' := by
  obtain ⟨xs, h1, h2⟩ := h.row
  obtain ⟨zs, hz⟩ := h.dat i hi
  exact ⟨h.md.trans hm (fun j _ e => .inr ⟨i, hi, e⟩), ⟨xs, h1.mod hm (fun j hj e => h1.apart' hz hj e), h2⟩, fun i' hi' => by obtain ⟨ys, hy⟩ := h.dat i' hi'; exact hy.like hl⟩
theorem SpInv.next {g off : Nat} (h : SpInv (some ⟨g, off, none⟩) lc vs w5 k wx) (hk : k < vs.length) (a b c : Value) : SpInv (some ⟨g, off, none⟩) lc vs w5 (k + 1) (((wx.setCell ⟨g, off + k * 3, none⟩ a).setCell ⟨g, off + k * 3 + 1, none⟩ b).setCell ⟨g, off + k * 3 + 2, none⟩ c) := by
  obtain ⟨xs, h1, h2⟩ := h.row
  have hl := h1.1
  have o1 := h1.put1 (j := k * 3) (by omega) a
  have o2 := o1.put1 (j := k * 3 + 1) (by omega) b
  have o3 := o2.put1 (j := k * 3 + 2) (by omega) c
  rw [← Nat.add_assoc, ← Nat.add_assoc] at o3
  have hm : Mod (fun j => j = g) wx (((wx.setCell ⟨g, off + k * 3, none⟩ a).setCell ⟨g, off + k * 3 + 1, none⟩ b).setCell ⟨g, off + k * 3 + 2, none⟩ c) := by
    repeat (refine Mod.setCell ?_ _ _ (fun _ => rfl))
    exact Mod.refl _ _
  refine ⟨h.md.trans hm (fun j _ e => .inl (by rw [e]; rfl)), ⟨_, o3, ?_⟩, fun i hi => ?_⟩
  · rw [List.drop_set, if_pos (by omega), List.drop_set, if_pos (by omega), List.drop_set, if_pos (by omega)]
    have e := congrArg (fun l : List Value => l.drop 3) h2
    simp only [List.drop_drop] at e
    rw [show (k + 1) * 3 = k * 3 + 3 from by omega]
    exact e
  · obtain ⟨ys, hy⟩ := h.dat i hi
    exact ⟨ys, hy.mod hm (fun j hj e => h1.apart' hy (j := j) (by rw [e]; rfl) hj)⟩
end
set_option maxRecDepth 20000 in
set_option maxHeartbeats 16000000 in
theorem archiveFeeds_walk (B C : Option Addr) (n c nc cc : Nat) (l : Bs) (cs : List Nat) (m : Int) (w : World) (hl : BySl w B n l) (hcap : n ≤ c) (hc : U16Sl w C nc cs) (hm : w.cell? ⟨0, 0, none⟩ = some (.int .i64 m)) :
    Calls Tryd.prog 8 #[.slice B n c, .slice C nc cc] w fun e w' => e = .returned (.bool true) ∧ Ext w w' := by
  have HM : Hid (∀ wx, Ext w wx → wx.cell? ⟨0, 0, none⟩ = some (.int .i64 m)) := Lib.hid (fun wx hx => (hx.cell (World.block_lt_of_cell? w _ hm)).trans hm)
  have Hp0 : Hid (0 < w.heap.size) := Lib.hid (World.block_lt_of_cell? w _ hm)
  have HL := Lib.hid hl
  have HC := Lib.hid hc
  clear hm hl hc
  go_enter Tryd.func8, Tryd.ntmps8
  go_wp2_with fail
  refine (works_any m w (HM.out _ (Ext.refl _))).mono ?_
  rintro e w2 ⟨rfl, hx2⟩
  have HX2 := Lib.hid hx2
  clear hx2
  by_cases h5 : 65536 < n
  · have h5' : (65536 : Int) < (n : Int) := by omega
    clear h5
    go_wp2_with fail
    refine (works_any m _ (HM.out _ HX2.out)).mono ?_
    rintro e w3 ⟨rfl, hx3⟩
    have HX3 := Lib.hid (HX2.out.trans hx3)
    clear hx3
    go_wp2_with fail
    go_ret
    exact ⟨rfl, HX3.out⟩
  · have h5' : ¬ (65536 : Int) < (n : Int) := by omega
    by_cases h3 : 300 < nc
    · have h3' : (300 : Int) < (nc : Int) := by omega
      clear h5 h3
      go_wp2_with fail
      refine (works_any m _ (HM.out _ HX2.out)).mono ?_
      rintro e w3 ⟨rfl, hx3⟩
      have HX3 := Lib.hid (HX2.out.trans hx3)
      clear hx3
      go_wp2_with fail
      go_ret
      exact ⟨rfl, HX3.out⟩
    · have h3' : ¬ (300 : Int) < (nc : Int) := by omega
      have hn5 : n ≤ 65536 := by omega
      have hnc3 : nc ≤ 300 := by omega
      clear h5 h3
      go_wp2_with fail
      refine (new_any w2).mono ?_
      rintro e w3 ⟨rfl, hx3, hr3⟩
      have HX3 := Lib.hid hx3
      have HR3 := Lib.hid hr3
      clear hx3 hr3
      obtain ⟨r1, hr1⟩ : ∃ r, w2.heap.size = r := ⟨_, rfl⟩
      rw [hr1] at HR3 ⊢
      have hr1w : w.heap.size ≤ r1 := by have := HX2.out.size; omega
      have HX23 := Lib.hid (HX2.out.trans HX3.out)
      clear hr1
      go_wp2_with fail
      have HX4 : Hid (Ext w3 (w3.alloc (.cells #[.slice none 0 0, .int .i64 0, .int .i64 0, .string ⟨#[]⟩, .bool false, .bool false] 46))) := Lib.hid ((Ext.refl _).alloc _)
      have HD4 : Hid (RfAt (w3.alloc (.cells #[.slice none 0 0, .int .i64 0, .int .i64 0, .string ⟨#[]⟩, .bool false, .bool false] 46)) w3.heap.size none 0 0 [] 0 0 [] false false) := Lib.hid ⟨heap_alloc_new w3 _, Own.nil _ _ _, by simp [Value.ownBlock]⟩
      obtain ⟨r2, hr2⟩ : ∃ r, w3.heap.size = r := ⟨_, rfl⟩
      obtain ⟨w4, hw4⟩ : ∃ W, w3.alloc (.cells #[.slice none 0 0, .int .i64 0, .int .i64 0, .string ⟨#[]⟩, .bool false, .bool false] 46) = W := ⟨_, rfl⟩
      rw [hw4] at HX4 HD4 ⊢
      rw [hr2] at HD4 ⊢
      have hr2w : w.heap.size ≤ r2 := by have := HX23.out.size; omega
      have HI4 : Hid (FInv Sp.real r1 r2 w 0 w4 (some Rd.new) none 0 0 none 0 0) := Lib.hid
        { ext := HX23.out.trans HX4.out
          rs := ⟨HR3.out.ext HX4.out, Rd.new_fine⟩
          ds := ⟨[], 0, 0, [], false, HD4.out, SimAny.new, Nat.zero_le _, Nat.le_refl _⟩
          le1 := Nat.le_refl _
          le2 := Nat.le_refl _
          o1 := fun k hk => by simp [Value.ownBlock] at hk
          o2 := fun k hk => by simp [Value.ownBlock] at hk
          ap := fun k hk => by simp [Value.ownBlock] at hk }
      clear hw4 hr2 HX4 HD4 HR3 HX3 HX2 HX23
      go_loopw [7, 8] (fun av iv wx => ∃ (a k : Nat) (q : Option Rd) (A1 : Option Addr) (n1 c1 : Nat) (A2 : Option Addr) (n2 c2 : Nat), av = .int .i64 (a : Int) ∧ iv = .int .i64 (k : Int) ∧ a ≤ n ∧ k ≤ nc + 1 ∧ FInv Sp.real r1 r2 w a wx q A1 n1 c1 A2 n2 c2) (fun _ iv _ => nc + 1 - (intOf iv).toNat)
      case atStart => exact ⟨0, 0, some Rd.new, none, 0, 0, none, 0, 0, rfl, rfl, Nat.zero_le _, Nat.zero_le _, HI4.out⟩
      case round =>
        obtain ⟨a, k, q, A1, n1, c1, A2, n2, c2, rfl, rfl, hal, hk, hinv⟩ := hrel
        have HI := Lib.hid hinv
        have hsub : IntKind.i64.wrap ((n : Int) - (a : Int)) = ((n - a : Nat) : Int) := by rw [IntWalk.i64_in _ (by omega)]; omega
        obtain ⟨i5, hi5, hz5, hsz5, hby5⟩ := info_parts Tryd.info5
        clear hinv HI4
        by_cases hlt : k ≤ nc
        · by_cases hlt2 : k < nc
          · obtain ⟨b, off, y, rfl, hbw, hy, hcy⟩ := HC.out.at hlt2
            have cy := (HI.out.ext.cell (p := ⟨b, off + k, none⟩) hbw).trans hcy
            clear hcy
            obtain ⟨M, hM⟩ : ∃ M, min (n - a) y = M := ⟨_, rfl⟩
            have hmin : min ((n - a : Nat) : Int) (y : Int) = (M : Int) := by omega
            have haM : a + M ≤ n := by omega
            have hadd : IntKind.i64.wrap ((a : Int) + (M : Int)) = ((a + M : Nat) : Int) := by rw [IntWalk.i64_in _ (by omega)]; omega
            obtain ⟨B', hbp, hsl⟩ := slice_piece HL.out haM hcap
            have Hbp := Lib.hid hbp
            clear hbp
            obtain ⟨pcs, hpcs⟩ : ∃ p, (l.drop a).take M = p := ⟨_, rfl⟩
            rw [hpcs] at Hbp
            have Hpc := Lib.hid hpcs
            clear hM hpcs
            have hpl : pcs.length = M := Hbp.out.1.symm
            have Hpl := Lib.hid hpl
            have hsr1 := HI.out.rs.lt
            have hsr2 := HI.out.ds.lt
            clear hpl
            go_wp2_with (at_builtin; refine wpList_append_own_any _ rfl (.const (.slice none 0 0)) (.tmp 63) 26 rfl 5 i5 _ 1 1 Tryd.underlying26 hi5 hz5 hsz5 hby5 rfl (by decide) (.slice none 0 0) 0 [] rfl (Own.nil wr 5 1) B' M (c - a) (u8v pcs) rfl (by rw [u8v_len, Nat.mul_one, Hpl.out]) (Hbp.out.ext HI.out.ext).news (u8v_one _) (by unfold maxLen; omega) (by omega) ?_)
            intro v1 w1 ho hg hv1
            have hx1 : Ext wr w1 := (Ext.refl _).grown hg (fun k e => by simp [Value.ownBlock] at e)
            have HP1 : Hid (Own w1 5 1 v1 M (u8v pcs)) := Lib.hid (by simpa using ho)
            have HPn : Hid (∀ k, v1.ownBlock = some k → wr.heap.size ≤ k ∧ k < w1.heap.size) := Lib.hid (fun k hk => ⟨by
              rcases hv1 with h | h
              · rw [h] at hk; simp [Value.ownBlock] at hk
              · rw [h] at hk; injection hk with hk; omega, HP1.out.lt k hk⟩)
            obtain ⟨PA, pc, rfl, -, -⟩ := HP1.out.form
            have HX1 := Lib.hid hx1
            clear ho hg hv1 hx1
            go_wp2_with fail
            refine (rs_feed Sp.real Sp.real_ok r1 A1 PA n1 c1 M pc q pcs m w1 (HI.out.rs.mod HX1.out (fun f => f) (fun _ _ f => f)) (HP1.out.bytes rfl) (by have := HI.out.le1; omega) (HM.out _ (HI.out.ext.trans HX1.out)) (fun e => by have := HI.out.o1 0 e; have := Hp0.out; omega)).mono ?_
            rintro e w2 ⟨vs, q', LA, lc, A1', n1', c1', hru, rfl, hit, hm2, hs2, hl1, ho1, hdat⟩
            have hx2 : Ext w w2 := (HI.out.ext.trans HX1.out).fresh hm2 (fun k hk => by
              rcases hk with rfl | hk
              · exact hr1w
              · exact HI.out.o1 k hk)
            have HX2 := Lib.hid hx2
            have HM2 := Lib.hid hm2
            have HRu := Lib.hid hru
            have HS2 := Lib.hid hs2
            have HO1 := Lib.hid ho1
            have HT2 := Lib.hid hit
            have Hdat := Lib.hid hdat
            have hvl : vs.length * 21 ≤ n1 + M := by
              have := hru.cap HI.out.rs
              rw [List.length_map, Hpl.out] at this
              exact this
            have hle1 := HI.out.le1
            have hle2 := HI.out.le2
            have HDb : Hid (∀ i ∈ vs, i.x.data.length ≤ 131072) := Lib.hid (fun i hi => by
              have := hru.data HI.out.rs i.x (List.mem_map_of_mem hi)
              rw [Hpl.out] at this
              omega)
            obtain ⟨z, hz⟩ : ∃ z : Int, (if q'.isNone then 260 else 0) = z := ⟨_, rfl⟩
            rw [hz]
            have Hz := Lib.hid hz
            clear hru hit hm2 hs2 ho1 hdat hx2 hz
            go_wp2_with fail
            refine (ds_feed Sp.real Sp.real_ok r2 A2 B' n2 c2 M (c - a) q pcs w2 (HI.out.doc HX1.out HM2.out) (Hbp.out.ext HX2.out) (by omega)).mono ?_
            rintro e w3 ⟨vs2, q2, LB, ld, A2', n2', c2', hru2, rfl, hit2, hm3, hd3, hl2, ho2⟩
            obtain ⟨e1, e2⟩ := hru2.det HRu.out
            subst e2
            rw [Hz.out]
            have hb1 := HI.out.rs.olt
            have hb2 := HI.out.ds.olt
            have hsz1 := HX1.out.size
            have hsz2 := HM2.out.size
            have hsz3 := hm3.size
            have hszr := HI.out.ext.size
            have HI3 := Lib.hid (HI.out.fed hr1w hr2w HX1.out HM2.out hm3 HS2.out hd3 hl1 hl2 HO1.out ho2)
            have HP3 : Hid (Own w3 5 1 (.slice PA M pc) M (u8v pcs)) := Lib.hid ((HP1.out.mod HM2.out (fun k hk s => by
              have := HPn.out k hk
              rcases s with rfl | s
              · omega
              · have := hb1 k s; omega)).mod hm3 (fun k hk s => by
              have := HPn.out k hk
              rcases s with rfl | s
              · omega
              · have := hb2 k s; omega))
            have HT3 : Hid (ItMine w1 w3 (.slice LA vs.length lc) vs) := Lib.hid (HT2.out.mod hm3 (fun k hk s => by
              have := HT2.out.new k hk
              rcases s with rfl | s
              · omega
              · have := hb2 k s; omega) (fun i hi k hk s => by
              have := HT2.out.dnew i hi k hk
              rcases s with rfl | s
              · omega
              · have := hb2 k s; omega))
            have HT23 := Lib.hid hit2
            have HPs : Hid (∀ k, (Value.slice PA M pc).ownBlock = some k → w.heap.size ≤ k ∧ k ≠ r1 ∧ k ≠ r2 ∧ (Value.slice A1' n1' c1').ownBlock ≠ some k ∧ (Value.slice A2' n2' c2').ownBlock ≠ some k) := Lib.hid (fun k hk => by
              have := HPn.out k hk
              refine ⟨by omega, by omega, by omega, fun e => ?_, fun e => ?_⟩
              · rcases HO1.out k e with s | s
                · have := hb1 k s; omega
                · omega
              · rcases ho2 k e with s | s
                · have := hb2 k s; omega
                · omega)
            have HPi : Hid (∀ k, (Value.slice PA M pc).ownBlock = some k → k < w1.heap.size) := Lib.hid (fun k hk => (HPn.out k hk).2)
            have HSp : Hid (∀ k, ((Value.slice LA vs.length lc).ownBlock = some k ∨ ∃ i ∈ vs, i.dat.ownBlock = some k) → w.heap.size ≤ k ∧ k ≠ r1 ∧ k ≠ r2 ∧ (Value.slice A1' n1' c1').ownBlock ≠ some k ∧ (Value.slice A2' n2' c2').ownBlock ≠ some k) := Lib.hid (fun k hk => by
              have h1 : w1.heap.size ≤ k ∧ k < w2.heap.size := by
                rcases hk with hk | ⟨i, hi, hk⟩
                · exact ⟨HT2.out.new k hk, HT2.out.row.lt k hk⟩
                · exact ⟨HT2.out.dnew i hi k hk, (HT2.out.dat i hi).lt k hk⟩
              refine ⟨by omega, by omega, by omega, fun e => ?_, fun e => ?_⟩
              · rcases hk with hk | ⟨i, hi, hk⟩
                · obtain ⟨xs, k1⟩ := HS2.out.own
                  obtain ⟨c5, k2⟩ := k1.ty e
                  obtain ⟨c6, k3⟩ := HT2.out.row.ty hk
                  rw [k2] at k3; injection k3 with k3; injection k3 with _ k3; exact absurd k3 (by decide)
                · exact Hdat.out i hi k hk e
              · rcases ho2 k e with s | s
                · have := hb2 k s; omega
                · omega)
            have Hvs := Lib.hid e1
            have hvl2 : vs2.length = vs.length := by have := congrArg List.length e1; simpa using this
            have Hvl2 := Lib.hid hvl2
            have HX3 := Lib.hid HI3.out.ext
            have Hsz2 : Hid (w1.heap.size ≤ w2.heap.size) := Lib.hid hsz2
            clear hru2 hit2 hm3 hd3 ho2 e1 hb1 hb2 hsz1 hsz2 hsz3 hszr hvl2 HI HP1 HPn HX1 HM2 HRu HS2 HO1 HT2 Hdat HX2
            go_wp2_with fail
            go_loopw [84] (fun iv wx => ∃ (j : Nat) (Bx : Bs), j ≤ M ∧ iv = .int .i64 (j : Int) ∧ Own wx 5 1 (.slice PA M pc) M (u8v Bx) ∧ Bx.drop j = pcs.drop j ∧ Mod (fun k => (Value.slice PA M pc).ownBlock = some k) w3 wx) (fun iv _ => M - (intOf iv).toNat)
            case atStart => exact ⟨0, pcs, Nat.zero_le _, rfl, HP3.out, rfl, Mod.refl _ _⟩
            case round =>
              obtain ⟨j, Bx, hj, rfl, hox, hdx, hmx⟩ := hrel
              have HOx := Lib.hid hox
              have HDx := Lib.hid hdx
              have HMx := Lib.hid hmx
              clear hox hdx hmx
              by_cases hjl : j < M
              · obtain ⟨pg, po, rfl, hpg⟩ : ∃ g off, PA = some ⟨g, off, none⟩ ∧ g < wr.heap.size := by obtain ⟨A', cap, hv, -, hp⟩ := HOx.out.form; injection hv with h1; subst h1; exact hp (by omega)
                have hbl' : Bx.length = M := by have := HOx.out.1; rw [u8v_len] at this; omega
                obtain ⟨ch, hch⟩ : ∃ ch, Bx[j]? = some ch := ⟨_, List.getElem?_eq_getElem (by omega)⟩
                have hpc' : pcs[j]? = some ch := by
                  have e1 := congrArg (fun l : Bs => l[0]?) HDx.out
                  simp only [List.getElem?_drop, Nat.add_zero] at e1
                  rw [← e1]; exact hch
                have hlc : l[a + j]? = some ch := by
                  rw [← Hpc.out, List.getElem?_take_of_lt hjl, List.getElem?_drop] at hpc'; exact hpc'
                obtain ⟨bg, bo, ch', rfl, hbg, hch', hcb⟩ := HL.out.at (k := a + j) (by omega)
                rw [hlc] at hch'
                injection hch' with hch'
                subst hch'
                obtain ⟨AK, hAK⟩ : ∃ x, a + j = x := ⟨_, rfl⟩
                rw [hAK] at hcb
                have p1 : (a : Int) + (j : Int) = (AK : Int) := by omega
                have p2 : IntKind.i64.wrap (AK : Int) = (AK : Int) := IntWalk.i64_in _ (by omega)
                have p3 : AK < n := by omega
                have hxx : Ext w wr := HX3.out.fresh HMx.out (fun k hk => (HPs.out k hk).1)
                have KP : ∀ wy, Ext wr wy → wy.cell? ⟨pg, po + j, none⟩ = some (.int .u8 (ch.toNat : Int)) := fun wy h => (h.cell hpg).trans (HOx.out.cells rfl j _ (by simp [u8v, hch]))
                have KB : ∀ wy, Ext wr wy → wy.cell? ⟨bg, bo + AK, none⟩ = some (.int .u8 (ch.toNat : Int)) := fun wy h => hcb wy (hxx.trans h)
                have HD6 : Hid ((Bx.set j 79).drop (j + 1) = pcs.drop (j + 1)) := Lib.hid (by
                  rw [List.drop_set, if_pos (by omega), ← List.drop_drop, ← List.drop_drop, HDx.out])
                clear hbl' hch hpc' hlc hcb hAK hxx
                go_wp2_with fail
                refine region_lin (fun wy => Ext wr wy) 100000 [(0, 3), (1, 3), (2, 3), (3, 0), (4, 3), (5, 3), (6, 3), (7, 3), (8, 3), (9, 0), (10, 3)] ?_ (by kernel_rfl) (by kernel_rfl) ?_ (fun _ _ _ _ _ h => h) ((Ext.refl _).drew) ?_
                rotate_left
                (simp only [planOps, List.mapM_cons, List.mapM_nil, List.getElem?_toArray, List.getElem?_cons_zero, List.getElem?_cons_succ, Option.map_some, Option.bind_eq_bind, Option.bind_some, Option.pure_def]; rfl)
                intro wd hwd hxd
                repeat (first | (refine lin_take ?_ (by rfl) (fun wx hx => ?_) ?_; rotate_left; go_simp; (with_reducible rfl); try simp only [Act.put, List.setIfInBounds_toArray, List.set_cons_zero, List.set_cons_succ]) | (refine lin_skip (by rfl) ?_; try simp only [Act.put, List.setIfInBounds_toArray, List.set_cons_zero, List.set_cons_succ]) | (refine lin_take3 ?_ (by rfl) (fun wx hx => ?_) ?_; rotate_left; go_simp; (with_reducible rfl); try simp only [Act.put, List.setIfInBounds_toArray, List.set_cons_zero, List.set_cons_succ]) | (refine lin_skip3 (by rfl) ?_; try simp only [Act.put, List.setIfInBounds_toArray, List.set_cons_zero, List.set_cons_succ]))
                refine lin_nil ?_
                have HO5 := Lib.hid (HOx.out.ext hwd)
                have c5 := KP wd hwd
                have f5 := HO5.out.frozen rfl (po + j)
                have HO6 : Hid (Own (wd.setCell ⟨pg, po + j, none⟩ (.int .u8 79)) 5 1 (.slice (some ⟨pg, po, none⟩) M pc) M (u8v (Bx.set j 79))) := Lib.hid (by
                  have := HO5.out.put1 (j := j) (by omega) (.int .u8 ((79 : UInt8).toNat : Int))
                  rwa [u8v_set] at this)
                have HM6 : Hid (Mod (fun k => (Value.slice (some ⟨pg, po, none⟩) M pc).ownBlock = some k) w3 (wd.setCell ⟨pg, po + j, none⟩ (.int .u8 79))) := Lib.hid ((HMx.out.trans hwd (fun _ _ f => f.elim)).setCell _ _ (fun _ => rfl))
                clear KP KB hwd hxd
                go_wp2_with fail
                go_roundw
                case rel => exact ⟨j + 1, Bx.set j 79, by omega, by go_num, HO6.out, HD6.out, HM6.out⟩
                case measure => simp [intOf]; omega
              · have HI4 := Lib.hid (HI3.out.mod HMx.out (fun k hk => HPs.out k hk))
                have HT4 : Hid (ItMine w1 wr (.slice LA vs.length lc) vs) := Lib.hid (HT3.out.mod HMx.out (fun k hk s => by have := HT3.out.new k hk; have := HPi.out k s; omega) (fun i hi k hk s => by have := HT3.out.dnew i hi k hk; have := HPi.out k s; omega))
                have hT2 : ItMine w2 wr (.slice LB vs2.length ld) vs2 := HT23.out.mod HMx.out (fun k hk s => by have := HT23.out.new k hk; have := HPi.out k s; have := Hsz2.out; omega) (fun i hi k hk s => by have := HT23.out.dnew i hi k hk; have := HPi.out k s; have := Hsz2.out; omega)
                have HLb4 : Hid (ItSl wr LB vs2.length (vs.map (·.x))) := Lib.hid (by have := hT2.sl; rwa [Hvs.out] at this)
                have bz : (z == z) = true := beq_self_eq_true z
                clear hT2 HI3 HT3 HT23 HMx HOx HDx HP3 HPs HPi
                go_wp2_with fail
                refine (same_yes LA LB vs.length lc vs2.length ld (vs.map (·.x)) wr HT4.out.sl HLb4.out (by omega)).mono ?_
                rintro e w5 ⟨rfl, hx5⟩
                have HI5 := Lib.hid (HI4.out.exts hx5)
                have HT5 := Lib.hid (HT4.out.ext hx5)
                clear hx5 HI4 HT4 HLb4 bz
                obtain ⟨dq, hdq⟩ : ∃ d, doneQ q2 = d := ⟨_, rfl⟩
                obtain ⟨hq, hhq⟩ : ∃ d, heldQ q2 = d := ⟨_, rfl⟩
                have Hdq := Lib.hid hdq
                have Hhq := Lib.hid hhq
                clear hdq hhq
                go_wp2_with fail
                refine (rs_done HI5.out.rs).mono ?_
                rintro e w6 ⟨rfl, rfl⟩
                rw [Hdq.out]
                go_wp2_with fail
                refine (ds_done HI5.out.ds).mono ?_
                rintro e w6 ⟨rfl, rfl⟩
                rw [Hdq.out]
                have bd : (dq == dq) = true := beq_self_eq_true dq
                go_wp2_with fail
                refine (rs_held HI5.out.rs).mono ?_
                rintro e w6 ⟨rfl, rfl⟩
                rw [Hhq.out]
                go_wp2_with fail
                refine (ds_held HI5.out.ds (by have := HI5.out.le2; omega)).mono ?_
                rintro e w6 ⟨rfl, hx6⟩
                rw [Hhq.out]
                have HI6 := Lib.hid (HI5.out.exts hx6)
                have HS6 := Lib.hid (SpInv.start (HT5.out.ext hx6))
                have bh : ((hq : Int) == (hq : Int)) = true := beq_self_eq_true _
                clear hx6 HI5 HT5
                go_wp2_with fail
                clear bd bh
                go_loopw [127] (fun iv wx => ∃ (k1 : Nat), k1 ≤ vs.length ∧ iv = .int .i64 (k1 : Int) ∧ SpInv LA lc vs w6 k1 wx) (fun iv _ => vs.length - (intOf iv).toNat)
                case atStart => exact ⟨0, Nat.zero_le _, rfl, HS6.out⟩
                case round =>
                  obtain ⟨k1, hk1, rfl, hsp⟩ := hrel
                  have HSP := Lib.hid hsp
                  clear hsp HS6
                  by_cases hk1l : k1 < vs.length
                  · obtain ⟨sg, so, rfl⟩ : ∃ g off, LA = some ⟨g, off, none⟩ := by
                      obtain ⟨xs, h1, -⟩ := HSP.out.row
                      obtain ⟨A', cap, hv, -, hp⟩ := h1.form
                      injection hv with h1
                      subst h1
                      obtain ⟨g, off, h, -⟩ := hp (by omega)
                      exact ⟨g, off, h⟩
                    obtain ⟨⟨ix, D, dc⟩, hi⟩ : ∃ i, vs[k1]? = some i := ⟨_, List.getElem?_eq_getElem hk1l⟩
                    have Hmem := Lib.hid (List.mem_of_getElem? hi)
                    have hmb := HDb.out _ Hmem.out
                    obtain ⟨ml, hml⟩ : ∃ m, ix.data.length = m := ⟨_, rfl⟩
                    have hmb2 : ml ≤ 131072 := by rw [← hml]; exact hmb
                    have HCD : Hid (∀ wx, SpInv (some ⟨sg, so, none⟩) lc vs w6 k1 wx → wx.cell? ⟨sg, so + k1 * 3 + 2, none⟩ = some (.slice D ml dc)) := Lib.hid (fun wx h => by
                      have := h.cell hi
                      rw [← hml]; exact this)
                    have HOD : Hid (∀ wx, SpInv (some ⟨sg, so, none⟩) lc vs w6 k1 wx → ∃ ys, Own wx 5 1 (.slice D ml dc) ml ys) := Lib.hid (fun wx h => by
                      have := h.dat _ Hmem.out
                      rw [← hml]; exact this)
                    have HIN : Hid (∀ wx w', SpInv (some ⟨sg, so, none⟩) lc vs w6 k1 wx → Mod (fun j => (Value.slice D ml dc).ownBlock = some j) wx w' → RowsLike wx w' → SpInv (some ⟨sg, so, none⟩) lc vs w6 k1 w') := Lib.hid (fun wx w' h hm hr => h.in Hmem.out (by rw [← hml] at hm; exact hm) hr)
                    have cd := HCD.out _ HSP.out
                    clear hi hmb hml Hmem
                    go_wp2_with fail
                    go_loopw [136] (fun jv wx => ∃ (j : Nat), j ≤ ml ∧ jv = .int .i64 (j : Int) ∧ SpInv (some ⟨sg, so, none⟩) lc vs w6 k1 wx) (fun jv _ => ml - (intOf jv).toNat)
                    case atStart => exact ⟨0, Nat.zero_le _, rfl, HSP.out⟩
                    case round =>
                      obtain ⟨j, hj, rfl, hsp⟩ := hrel
                      have HSQ := Lib.hid hsp
                      clear hsp cd
                      have cd := HCD.out _ HSQ.out
                      obtain ⟨ys, hys⟩ := HOD.out _ HSQ.out
                      have HY := Lib.hid hys
                      clear hys
                      by_cases hjl : j < ml
                      · obtain ⟨dg, dO, rfl⟩ : ∃ g off, D = some ⟨g, off, none⟩ := by
                          obtain ⟨A', cap, hv, -, hp⟩ := HY.out.form
                          injection hv with h1
                          subst h1
                          obtain ⟨g, off, h, -⟩ := hp (by omega)
                          exact ⟨g, off, h⟩
                        have hyl : j < ys.length := by have := HY.out.1; omega
                        have cj := HY.out.cells rfl j _ (List.getElem?_eq_getElem hyl)
                        have fj := HY.out.frozen rfl (dO + j)
                        go_wp2_with fail
                        go_roundw
                        case rel => exact ⟨j + 1, by omega, by go_num, HIN.out _ _ HSQ.out (Mod.setCell (Mod.refl _ _) _ _ (fun _ => rfl)) (RowsLike.setCell _ _ _ _)⟩
                        case measure => simp [intOf]; omega
                      · go_wp2_with (at_builtin; refine wpList_append_own_zeros _ rfl (.tmp 151) _ 26 3 rfl 5 i5 _ 1 1 .i64 .i64 Tryd.underlying26 Tryd.underlying3 hi5 hz5 hsz5 hby5 rfl (by decide) (.slice D ml dc) ml ys rfl HY.out 30 rfl zs30 zs30_eq zs30_len zs30_one (by decide) (by unfold maxLen; omega) (by omega) ?_)
                        intro v9 w9 ho hg hv9 hl9
                        obtain ⟨ML, hML⟩ : ∃ x, ml + 30 = x := ⟨_, rfl⟩
                        rw [hML] at ho
                        have p5 : (ml : Int) + 30 = (ML : Int) := by omega
                        have p6 : IntKind.i64.wrap (ML : Int) = (ML : Int) := IntWalk.i64_in _ (by omega)
                        have HSR := Lib.hid (HIN.out _ _ HSQ.out ((Mod.refl _ _).grown hg (fun k e _ => e)) hl9)
                        obtain ⟨A9, c9, rfl, -, -⟩ := ho.form
                        have cd9 := HCD.out _ HSR.out
                        obtain ⟨xs, hxs, -⟩ := HSR.out.row
                        have hxl := hxs.1
                        obtain ⟨u0, hu0⟩ : ∃ u, xs[k1 * 3]? = some u := ⟨_, List.getElem?_eq_getElem (by omega)⟩
                        have cr0 := hxs.cells rfl _ _ hu0
                        obtain ⟨u1, hu1⟩ : ∃ u, xs[k1 * 3 + 1]? = some u := ⟨_, List.getElem?_eq_getElem (by omega)⟩
                        have cr1 := hxs.cells rfl _ _ hu1
                        obtain ⟨u2, hu2⟩ : ∃ u, xs[k1 * 3 + 2]? = some u := ⟨_, List.getElem?_eq_getElem (by omega)⟩
                        have cr2 := hxs.cells rfl _ _ hu2
                        rw [← Nat.add_assoc] at cr1 cr2
                        have fr := fun o => hxs.frozen rfl o
                        have fr0 := fr (so + k1 * 3)
                        have fr1 := fr (so + k1 * 3 + 1)
                        have fr2 := fr (so + k1 * 3 + 2)
                        clear ho hg hv9 hl9 hxl hu0 hu1 hu2 hxs fr HY
                        go_wp2_with fail
                        go_roundw
                        case rel => exact ⟨k1 + 1, by omega, by go_num, HSR.out.next hk1l _ _ _⟩
                        case measure => simp [intOf]; omega
                  · have HI7 := Lib.hid (HI6.out.mod HSP.out.md (fun k hk => HSp.out k hk))
                    clear HI6 HSP
                    go_wp2_with fail
                    go_roundw
                    case rel => exact ⟨a + M, k + 1, q2, A1', n1', c1', A2', n2', c2', by go_num, by go_num, haM, by omega, HI7.out⟩
                    case measure => first | (simp [intOf]; omega) | simp [intOf]
          · have hkn : k = nc := by omega
            subst hkn
            obtain ⟨M, hM⟩ : ∃ M, n - a = M := ⟨_, rfl⟩
            rw [hM] at hsub
            have haM : a + M ≤ n := by omega
            have hadd : IntKind.i64.wrap ((a : Int) + (M : Int)) = ((a + M : Nat) : Int) := by rw [IntWalk.i64_in _ (by omega)]; omega
            obtain ⟨B', hbp, hsl⟩ := slice_piece HL.out haM hcap
            have Hbp := Lib.hid hbp
            clear hbp
            obtain ⟨pcs, hpcs⟩ : ∃ p, (l.drop a).take M = p := ⟨_, rfl⟩
            rw [hpcs] at Hbp
            have Hpc := Lib.hid hpcs
            clear hM hpcs
            have hpl : pcs.length = M := Hbp.out.1.symm
            have Hpl := Lib.hid hpl
            have hsr1 := HI.out.rs.lt
            have hsr2 := HI.out.ds.lt
            clear hpl
            go_wp2_with (at_builtin; refine wpList_append_own_any _ rfl (.const (.slice none 0 0)) (.tmp 63) 26 rfl 5 i5 _ 1 1 Tryd.underlying26 hi5 hz5 hsz5 hby5 rfl (by decide) (.slice none 0 0) 0 [] rfl (Own.nil wr 5 1) B' M (c - a) (u8v pcs) rfl (by rw [u8v_len, Nat.mul_one, Hpl.out]) (Hbp.out.ext HI.out.ext).news (u8v_one _) (by unfold maxLen; omega) (by omega) ?_)
            intro v1 w1 ho hg hv1
            have hx1 : Ext wr w1 := (Ext.refl _).grown hg (fun k e => by simp [Value.ownBlock] at e)
            have HP1 : Hid (Own w1 5 1 v1 M (u8v pcs)) := Lib.hid (by simpa using ho)
            have HPn : Hid (∀ k, v1.ownBlock = some k → wr.heap.size ≤ k ∧ k < w1.heap.size) := Lib.hid (fun k hk => ⟨by
              rcases hv1 with h | h
              · rw [h] at hk; simp [Value.ownBlock] at hk
              · rw [h] at hk; injection hk with hk; omega, HP1.out.lt k hk⟩)
            obtain ⟨PA, pc, rfl, -, -⟩ := HP1.out.form
            have HX1 := Lib.hid hx1
            clear ho hg hv1 hx1
            go_wp2_with fail
            refine (rs_feed Sp.real Sp.real_ok r1 A1 PA n1 c1 M pc q pcs m w1 (HI.out.rs.mod HX1.out (fun f => f) (fun _ _ f => f)) (HP1.out.bytes rfl) (by have := HI.out.le1; omega) (HM.out _ (HI.out.ext.trans HX1.out)) (fun e => by have := HI.out.o1 0 e; have := Hp0.out; omega)).mono ?_
            rintro e w2 ⟨vs, q', LA, lc, A1', n1', c1', hru, rfl, hit, hm2, hs2, hl1, ho1, hdat⟩
            have hx2 : Ext w w2 := (HI.out.ext.trans HX1.out).fresh hm2 (fun k hk => by
              rcases hk with rfl | hk
              · exact hr1w
              · exact HI.out.o1 k hk)
            have HX2 := Lib.hid hx2
            have HM2 := Lib.hid hm2
            have HRu := Lib.hid hru
            have HS2 := Lib.hid hs2
            have HO1 := Lib.hid ho1
            have HT2 := Lib.hid hit
            have Hdat := Lib.hid hdat
            have hvl : vs.length * 21 ≤ n1 + M := by
              have := hru.cap HI.out.rs
              rw [List.length_map, Hpl.out] at this
              exact this
            have hle1 := HI.out.le1
            have hle2 := HI.out.le2
            have HDb : Hid (∀ i ∈ vs, i.x.data.length ≤ 131072) := Lib.hid (fun i hi => by
              have := hru.data HI.out.rs i.x (List.mem_map_of_mem hi)
              rw [Hpl.out] at this
              omega)
            obtain ⟨z, hz⟩ : ∃ z : Int, (if q'.isNone then 260 else 0) = z := ⟨_, rfl⟩
            rw [hz]
            have Hz := Lib.hid hz
            clear hru hit hm2 hs2 ho1 hdat hx2 hz
            go_wp2_with fail
            refine (ds_feed Sp.real Sp.real_ok r2 A2 B' n2 c2 M (c - a) q pcs w2 (HI.out.doc HX1.out HM2.out) (Hbp.out.ext HX2.out) (by omega)).mono ?_
            rintro e w3 ⟨vs2, q2, LB, ld, A2', n2', c2', hru2, rfl, hit2, hm3, hd3, hl2, ho2⟩
            obtain ⟨e1, e2⟩ := hru2.det HRu.out
            subst e2
            rw [Hz.out]
            have hb1 := HI.out.rs.olt
            have hb2 := HI.out.ds.olt
            have hsz1 := HX1.out.size
            have hsz2 := HM2.out.size
            have hsz3 := hm3.size
            have hszr := HI.out.ext.size
            have HI3 := Lib.hid (HI.out.fed hr1w hr2w HX1.out HM2.out hm3 HS2.out hd3 hl1 hl2 HO1.out ho2)
            have HP3 : Hid (Own w3 5 1 (.slice PA M pc) M (u8v pcs)) := Lib.hid ((HP1.out.mod HM2.out (fun k hk s => by
              have := HPn.out k hk
              rcases s with rfl | s
              · omega
              · have := hb1 k s; omega)).mod hm3 (fun k hk s => by
              have := HPn.out k hk
              rcases s with rfl | s
              · omega
              · have := hb2 k s; omega))
            have HT3 : Hid (ItMine w1 w3 (.slice LA vs.length lc) vs) := Lib.hid (HT2.out.mod hm3 (fun k hk s => by
              have := HT2.out.new k hk
              rcases s with rfl | s
              · omega
              · have := hb2 k s; omega) (fun i hi k hk s => by
              have := HT2.out.dnew i hi k hk
              rcases s with rfl | s
              · omega
              · have := hb2 k s; omega))
            have HT23 := Lib.hid hit2
            have HPs : Hid (∀ k, (Value.slice PA M pc).ownBlock = some k → w.heap.size ≤ k ∧ k ≠ r1 ∧ k ≠ r2 ∧ (Value.slice A1' n1' c1').ownBlock ≠ some k ∧ (Value.slice A2' n2' c2').ownBlock ≠ some k) := Lib.hid (fun k hk => by
              have := HPn.out k hk
              refine ⟨by omega, by omega, by omega, fun e => ?_, fun e => ?_⟩
              · rcases HO1.out k e with s | s
                · have := hb1 k s; omega
                · omega
              · rcases ho2 k e with s | s
                · have := hb2 k s; omega
                · omega)
            have HPi : Hid (∀ k, (Value.slice PA M pc).ownBlock = some k → k < w1.heap.size) := Lib.hid (fun k hk => (HPn.out k hk).2)
            have HSp : Hid (∀ k, ((Value.slice LA vs.length lc).ownBlock = some k ∨ ∃ i ∈ vs, i.dat.ownBlock = some k) → w.heap.size ≤ k ∧ k ≠ r1 ∧ k ≠ r2 ∧ (Value.slice A1' n1' c1').ownBlock ≠ some k ∧ (Value.slice A2' n2' c2').ownBlock ≠ some k) := Lib.hid (fun k hk => by
              have h1 : w1.heap.size ≤ k ∧ k < w2.heap.size := by
                rcases hk with hk | ⟨i, hi, hk⟩
                · exact ⟨HT2.out.new k hk, HT2.out.row.lt k hk⟩
                · exact ⟨HT2.out.dnew i hi k hk, (HT2.out.dat i hi).lt k hk⟩
              refine ⟨by omega, by omega, by omega, fun e => ?_, fun e => ?_⟩
              · rcases hk with hk | ⟨i, hi, hk⟩
                · obtain ⟨xs, k1⟩ := HS2.out.own
                  obtain ⟨c5, k2⟩ := k1.ty e
                  obtain ⟨c6, k3⟩ := HT2.out.row.ty hk
                  rw [k2] at k3; injection k3 with k3; injection k3 with _ k3; exact absurd k3 (by decide)
                · exact Hdat.out i hi k hk e
              · rcases ho2 k e with s | s
                · have := hb2 k s; omega
                · omega)
            have Hvs := Lib.hid e1
            have hvl2 : vs2.length = vs.length := by have := congrArg List.length e1; simpa using this
            have Hvl2 := Lib.hid hvl2
            have HX3 := Lib.hid HI3.out.ext
            have Hsz2 : Hid (w1.heap.size ≤ w2.heap.size) := Lib.hid hsz2
            clear hru2 hit2 hm3 hd3 ho2 e1 hb1 hb2 hsz1 hsz2 hsz3 hszr hvl2 HI HP1 HPn HX1 HM2 HRu HS2 HO1 HT2 Hdat HX2
            go_wp2_with fail
            go_loopw [84] (fun iv wx => ∃ (j : Nat) (Bx : Bs), j ≤ M ∧ iv = .int .i64 (j : Int) ∧ Own wx 5 1 (.slice PA M pc) M (u8v Bx) ∧ Bx.drop j = pcs.drop j ∧ Mod (fun k => (Value.slice PA M pc).ownBlock = some k) w3 wx) (fun iv _ => M - (intOf iv).toNat)
            case atStart => exact ⟨0, pcs, Nat.zero_le _, rfl, HP3.out, rfl, Mod.refl _ _⟩
            case round =>
              obtain ⟨j, Bx, hj, rfl, hox, hdx, hmx⟩ := hrel
              have HOx := Lib.hid hox
              have HDx := Lib.hid hdx
              have HMx := Lib.hid hmx
              clear hox hdx hmx
              by_cases hjl : j < M
              · obtain ⟨pg, po, rfl, hpg⟩ : ∃ g off, PA = some ⟨g, off, none⟩ ∧ g < wr.heap.size := by obtain ⟨A', cap, hv, -, hp⟩ := HOx.out.form; injection hv with h1; subst h1; exact hp (by omega)
                have hbl' : Bx.length = M := by have := HOx.out.1; rw [u8v_len] at this; omega
                obtain ⟨ch, hch⟩ : ∃ ch, Bx[j]? = some ch := ⟨_, List.getElem?_eq_getElem (by omega)⟩
                have hpc' : pcs[j]? = some ch := by
                  have e1 := congrArg (fun l : Bs => l[0]?) HDx.out
                  simp only [List.getElem?_drop, Nat.add_zero] at e1
                  rw [← e1]; exact hch
                have hlc : l[a + j]? = some ch := by
                  rw [← Hpc.out, List.getElem?_take_of_lt hjl, List.getElem?_drop] at hpc'; exact hpc'
                obtain ⟨bg, bo, ch', rfl, hbg, hch', hcb⟩ := HL.out.at (k := a + j) (by omega)
                rw [hlc] at hch'
                injection hch' with hch'
                subst hch'
                obtain ⟨AK, hAK⟩ : ∃ x, a + j = x := ⟨_, rfl⟩
                rw [hAK] at hcb
                have p1 : (a : Int) + (j : Int) = (AK : Int) := by omega
                have p2 : IntKind.i64.wrap (AK : Int) = (AK : Int) := IntWalk.i64_in _ (by omega)
                have p3 : AK < n := by omega
                have hxx : Ext w wr := HX3.out.fresh HMx.out (fun k hk => (HPs.out k hk).1)
                have KP : ∀ wy, Ext wr wy → wy.cell? ⟨pg, po + j, none⟩ = some (.int .u8 (ch.toNat : Int)) := fun wy h => (h.cell hpg).trans (HOx.out.cells rfl j _ (by simp [u8v, hch]))
                have KB : ∀ wy, Ext wr wy → wy.cell? ⟨bg, bo + AK, none⟩ = some (.int .u8 (ch.toNat : Int)) := fun wy h => hcb wy (hxx.trans h)
                have HD6 : Hid ((Bx.set j 79).drop (j + 1) = pcs.drop (j + 1)) := Lib.hid (by
                  rw [List.drop_set, if_pos (by omega), ← List.drop_drop, ← List.drop_drop, HDx.out])
                clear hbl' hch hpc' hlc hcb hAK hxx
                go_wp2_with fail
                refine region_lin (fun wy => Ext wr wy) 100000 [(0, 3), (1, 3), (2, 3), (3, 0), (4, 3), (5, 3), (6, 3), (7, 3), (8, 3), (9, 0), (10, 3)] ?_ (by kernel_rfl) (by kernel_rfl) ?_ (fun _ _ _ _ _ h => h) ((Ext.refl _).drew) ?_
                rotate_left
                (simp only [planOps, List.mapM_cons, List.mapM_nil, List.getElem?_toArray, List.getElem?_cons_zero, List.getElem?_cons_succ, Option.map_some, Option.bind_eq_bind, Option.bind_some, Option.pure_def]; rfl)
                intro wd hwd hxd
                repeat (first | (refine lin_take ?_ (by rfl) (fun wx hx => ?_) ?_; rotate_left; go_simp; (with_reducible rfl); try simp only [Act.put, List.setIfInBounds_toArray, List.set_cons_zero, List.set_cons_succ]) | (refine lin_skip (by rfl) ?_; try simp only [Act.put, List.setIfInBounds_toArray, List.set_cons_zero, List.set_cons_succ]) | (refine lin_take3 ?_ (by rfl) (fun wx hx => ?_) ?_; rotate_left; go_simp; (with_reducible rfl); try simp only [Act.put, List.setIfInBounds_toArray, List.set_cons_zero, List.set_cons_succ]) | (refine lin_skip3 (by rfl) ?_; try simp only [Act.put, List.setIfInBounds_toArray, List.set_cons_zero, List.set_cons_succ]))
                refine lin_nil ?_
                have HO5 := Lib.hid (HOx.out.ext hwd)
                have c5 := KP wd hwd
                have f5 := HO5.out.frozen rfl (po + j)
                have HO6 : Hid (Own (wd.setCell ⟨pg, po + j, none⟩ (.int .u8 79)) 5 1 (.slice (some ⟨pg, po, none⟩) M pc) M (u8v (Bx.set j 79))) := Lib.hid (by
                  have := HO5.out.put1 (j := j) (by omega) (.int .u8 ((79 : UInt8).toNat : Int))
                  rwa [u8v_set] at this)
                have HM6 : Hid (Mod (fun k => (Value.slice (some ⟨pg, po, none⟩) M pc).ownBlock = some k) w3 (wd.setCell ⟨pg, po + j, none⟩ (.int .u8 79))) := Lib.hid ((HMx.out.trans hwd (fun _ _ f => f.elim)).setCell _ _ (fun _ => rfl))
                clear KP KB hwd hxd
                go_wp2_with fail
                go_roundw
                case rel => exact ⟨j + 1, Bx.set j 79, by omega, by go_num, HO6.out, HD6.out, HM6.out⟩
                case measure => simp [intOf]; omega
              · have HI4 := Lib.hid (HI3.out.mod HMx.out (fun k hk => HPs.out k hk))
                have HT4 : Hid (ItMine w1 wr (.slice LA vs.length lc) vs) := Lib.hid (HT3.out.mod HMx.out (fun k hk s => by have := HT3.out.new k hk; have := HPi.out k s; omega) (fun i hi k hk s => by have := HT3.out.dnew i hi k hk; have := HPi.out k s; omega))
                have hT2 : ItMine w2 wr (.slice LB vs2.length ld) vs2 := HT23.out.mod HMx.out (fun k hk s => by have := HT23.out.new k hk; have := HPi.out k s; have := Hsz2.out; omega) (fun i hi k hk s => by have := HT23.out.dnew i hi k hk; have := HPi.out k s; have := Hsz2.out; omega)
                have HLb4 : Hid (ItSl wr LB vs2.length (vs.map (·.x))) := Lib.hid (by have := hT2.sl; rwa [Hvs.out] at this)
                have bz : (z == z) = true := beq_self_eq_true z
                clear hT2 HI3 HT3 HT23 HMx HOx HDx HP3 HPs HPi
                go_wp2_with fail
                refine (same_yes LA LB vs.length lc vs2.length ld (vs.map (·.x)) wr HT4.out.sl HLb4.out (by omega)).mono ?_
                rintro e w5 ⟨rfl, hx5⟩
                have HI5 := Lib.hid (HI4.out.exts hx5)
                have HT5 := Lib.hid (HT4.out.ext hx5)
                clear hx5 HI4 HT4 HLb4 bz
                obtain ⟨dq, hdq⟩ : ∃ d, doneQ q2 = d := ⟨_, rfl⟩
                obtain ⟨hq, hhq⟩ : ∃ d, heldQ q2 = d := ⟨_, rfl⟩
                have Hdq := Lib.hid hdq
                have Hhq := Lib.hid hhq
                clear hdq hhq
                go_wp2_with fail
                refine (rs_done HI5.out.rs).mono ?_
                rintro e w6 ⟨rfl, rfl⟩
                rw [Hdq.out]
                go_wp2_with fail
                refine (ds_done HI5.out.ds).mono ?_
                rintro e w6 ⟨rfl, rfl⟩
                rw [Hdq.out]
                have bd : (dq == dq) = true := beq_self_eq_true dq
                go_wp2_with fail
                refine (rs_held HI5.out.rs).mono ?_
                rintro e w6 ⟨rfl, rfl⟩
                rw [Hhq.out]
                go_wp2_with fail
                refine (ds_held HI5.out.ds (by have := HI5.out.le2; omega)).mono ?_
                rintro e w6 ⟨rfl, hx6⟩
                rw [Hhq.out]
                have HI6 := Lib.hid (HI5.out.exts hx6)
                have HS6 := Lib.hid (SpInv.start (HT5.out.ext hx6))
                have bh : ((hq : Int) == (hq : Int)) = true := beq_self_eq_true _
                clear hx6 HI5 HT5
                go_wp2_with fail
                clear bd bh
                go_loopw [127] (fun iv wx => ∃ (k1 : Nat), k1 ≤ vs.length ∧ iv = .int .i64 (k1 : Int) ∧ SpInv LA lc vs w6 k1 wx) (fun iv _ => vs.length - (intOf iv).toNat)
                case atStart => exact ⟨0, Nat.zero_le _, rfl, HS6.out⟩
                case round =>
                  obtain ⟨k1, hk1, rfl, hsp⟩ := hrel
                  have HSP := Lib.hid hsp
                  clear hsp HS6
                  by_cases hk1l : k1 < vs.length
                  · obtain ⟨sg, so, rfl⟩ : ∃ g off, LA = some ⟨g, off, none⟩ := by
                      obtain ⟨xs, h1, -⟩ := HSP.out.row
                      obtain ⟨A', cap, hv, -, hp⟩ := h1.form
                      injection hv with h1
                      subst h1
                      obtain ⟨g, off, h, -⟩ := hp (by omega)
                      exact ⟨g, off, h⟩
                    obtain ⟨⟨ix, D, dc⟩, hi⟩ : ∃ i, vs[k1]? = some i := ⟨_, List.getElem?_eq_getElem hk1l⟩
                    have Hmem := Lib.hid (List.mem_of_getElem? hi)
                    have hmb := HDb.out _ Hmem.out
                    obtain ⟨ml, hml⟩ : ∃ m, ix.data.length = m := ⟨_, rfl⟩
                    have hmb2 : ml ≤ 131072 := by rw [← hml]; exact hmb
                    have HCD : Hid (∀ wx, SpInv (some ⟨sg, so, none⟩) lc vs w6 k1 wx → wx.cell? ⟨sg, so + k1 * 3 + 2, none⟩ = some (.slice D ml dc)) := Lib.hid (fun wx h => by
                      have := h.cell hi
                      rw [← hml]; exact this)
                    have HOD : Hid (∀ wx, SpInv (some ⟨sg, so, none⟩) lc vs w6 k1 wx → ∃ ys, Own wx 5 1 (.slice D ml dc) ml ys) := Lib.hid (fun wx h => by
                      have := h.dat _ Hmem.out
                      rw [← hml]; exact this)
                    have HIN : Hid (∀ wx w', SpInv (some ⟨sg, so, none⟩) lc vs w6 k1 wx → Mod (fun j => (Value.slice D ml dc).ownBlock = some j) wx w' → RowsLike wx w' → SpInv (some ⟨sg, so, none⟩) lc vs w6 k1 w') := Lib.hid (fun wx w' h hm hr => h.in Hmem.out (by rw [← hml] at hm; exact hm) hr)
                    have cd := HCD.out _ HSP.out
                    clear hi hmb hml Hmem
                    go_wp2_with fail
                    go_loopw [136] (fun jv wx => ∃ (j : Nat), j ≤ ml ∧ jv = .int .i64 (j : Int) ∧ SpInv (some ⟨sg, so, none⟩) lc vs w6 k1 wx) (fun jv _ => ml - (intOf jv).toNat)
                    case atStart => exact ⟨0, Nat.zero_le _, rfl, HSP.out⟩
                    case round =>
                      obtain ⟨j, hj, rfl, hsp⟩ := hrel
                      have HSQ := Lib.hid hsp
                      clear hsp cd
                      have cd := HCD.out _ HSQ.out
                      obtain ⟨ys, hys⟩ := HOD.out _ HSQ.out
                      have HY := Lib.hid hys
                      clear hys
                      by_cases hjl : j < ml
                      · obtain ⟨dg, dO, rfl⟩ : ∃ g off, D = some ⟨g, off, none⟩ := by
                          obtain ⟨A', cap, hv, -, hp⟩ := HY.out.form
                          injection hv with h1
                          subst h1
                          obtain ⟨g, off, h, -⟩ := hp (by omega)
                          exact ⟨g, off, h⟩
                        have hyl : j < ys.length := by have := HY.out.1; omega
                        have cj := HY.out.cells rfl j _ (List.getElem?_eq_getElem hyl)
                        have fj := HY.out.frozen rfl (dO + j)
                        go_wp2_with fail
                        go_roundw
                        case rel => exact ⟨j + 1, by omega, by go_num, HIN.out _ _ HSQ.out (Mod.setCell (Mod.refl _ _) _ _ (fun _ => rfl)) (RowsLike.setCell _ _ _ _)⟩
                        case measure => simp [intOf]; omega
                      · go_wp2_with (at_builtin; refine wpList_append_own_zeros _ rfl (.tmp 151) _ 26 3 rfl 5 i5 _ 1 1 .i64 .i64 Tryd.underlying26 Tryd.underlying3 hi5 hz5 hsz5 hby5 rfl (by decide) (.slice D ml dc) ml ys rfl HY.out 30 rfl zs30 zs30_eq zs30_len zs30_one (by decide) (by unfold maxLen; omega) (by omega) ?_)
                        intro v9 w9 ho hg hv9 hl9
                        obtain ⟨ML, hML⟩ : ∃ x, ml + 30 = x := ⟨_, rfl⟩
                        rw [hML] at ho
                        have p5 : (ml : Int) + 30 = (ML : Int) := by omega
                        have p6 : IntKind.i64.wrap (ML : Int) = (ML : Int) := IntWalk.i64_in _ (by omega)
                        have HSR := Lib.hid (HIN.out _ _ HSQ.out ((Mod.refl _ _).grown hg (fun k e _ => e)) hl9)
                        obtain ⟨A9, c9, rfl, -, -⟩ := ho.form
                        have cd9 := HCD.out _ HSR.out
                        obtain ⟨xs, hxs, -⟩ := HSR.out.row
                        have hxl := hxs.1
                        obtain ⟨u0, hu0⟩ : ∃ u, xs[k1 * 3]? = some u := ⟨_, List.getElem?_eq_getElem (by omega)⟩
                        have cr0 := hxs.cells rfl _ _ hu0
                        obtain ⟨u1, hu1⟩ : ∃ u, xs[k1 * 3 + 1]? = some u := ⟨_, List.getElem?_eq_getElem (by omega)⟩
                        have cr1 := hxs.cells rfl _ _ hu1
                        obtain ⟨u2, hu2⟩ : ∃ u, xs[k1 * 3 + 2]? = some u := ⟨_, List.getElem?_eq_getElem (by omega)⟩
                        have cr2 := hxs.cells rfl _ _ hu2
                        rw [← Nat.add_assoc] at cr1 cr2
                        have fr := fun o => hxs.frozen rfl o
                        have fr0 := fr (so + k1 * 3)
                        have fr1 := fr (so + k1 * 3 + 1)
                        have fr2 := fr (so + k1 * 3 + 2)
                        clear ho hg hv9 hl9 hxl hu0 hu1 hu2 hxs fr HY
                        go_wp2_with fail
                        go_roundw
                        case rel => exact ⟨k1 + 1, by omega, by go_num, HSR.out.next hk1l _ _ _⟩
                        case measure => simp [intOf]; omega
                  · have HI7 := Lib.hid (HI6.out.mod HSP.out.md (fun k hk => HSp.out k hk))
                    clear HI6 HSP
                    go_wp2_with fail
                    go_roundw
                    case rel => exact ⟨a + M, k + 1, q2, A1', n1', c1', A2', n2', c2', by go_num, by go_num, haM, by omega, HI7.out⟩
                    case measure => first | (simp [intOf]; omega) | simp [intOf]
        · clear hsub
          go_wp2_with fail
          go_ret
          exact ⟨rfl, HI.out.ext⟩
end Go.Proofs.YtcpnnkkfndgpjaaDoor
