/- The document's Circle, walked. -/
import Derived.Test.YtpjgfkdnjkfnfaaPG
namespace Go.Proofs.Ytpjgfkdnjkfnfaa
open Go.RowKit Go.Maps

/-- A row of 256 bools at block g. -/
def BR2 (w : World) (g : Nat) (f : Nat → Bool) : Prop := ∃ cs : Array Value, w.heap[g]? = some (.cells cs 4 (0, 0)) ∧ cs.size = 256 ∧ ∀ i, i < 256 → cs[i]? = some (.bool (f i))
theorem BR2.lt {w g f} (h : BR2 w g f) : g < w.heap.size := by obtain ⟨cs, h1, _⟩ := h; exact (Array.getElem?_eq_some_iff.1 h1).1
theorem BR2.cell {w g f} (h : BR2 w g f) (i : Nat) (hi : i < 256) : w.cell? ⟨g, i, none⟩ = some (.bool (f i)) := by
  obtain ⟨cs, h1, _, h3⟩ := h
  rw [cell_of_row w g i cs 4 (0, 0) h1]; exact h3 i hi
theorem BR2.frozen {w g f} (h : BR2 w g f) (i : Nat) : w.frozen? ⟨g, i, none⟩ = false := by
  obtain ⟨cs, h1, _⟩ := h
  unfold World.frozen?; rw [h1]; simp
theorem BR2.ne {w g f e size v n xs} (h : BR2 w g f) (ho : Own w e size v n xs) (he : 4 ≠ e) : v.ownBlock ≠ some g := by
  obtain ⟨cs, h1, _⟩ := h
  exact own_ne ho h1 he
theorem BR2.mod {S w w' g f} (h : BR2 w g f) (hm : Mod S w w') (hs : ¬ S g) : BR2 w' g f := by
  have hlt := h.lt
  obtain ⟨cs, h1, h2⟩ := h
  exact ⟨cs, (hm.block g hlt hs).trans h1, h2⟩
theorem BR2.set {w g f} (h : BR2 w g f) (i : Nat) : BR2 (w.setCell ⟨g, i, none⟩ (.bool true)) g (fun j => if j = i then true else f j) := by
  obtain ⟨cs, h1, h2, h3⟩ := h
  refine ⟨cs.setIfInBounds i (.bool true), heap_setCell_at h1 _, by simpa using h2, fun j hj => ?_⟩
  by_cases hji : j = i
  · subst hji
    simp [h2, hj]
  · rw [Array.getElem?_setIfInBounds_ne (Ne.symm hji), h3 j hj]
    simp [hji]

/-- The edges, up to a waiting one. -/
def EI (w wr : World) (E : Nat → List Nat) (D : Nat → Nat → Prop) (B : Nat) : Prop :=
  Ext w wr ∧ ET wr w.heap.size w.heap.size E ∧ (∀ a b : Nat, b ∈ E a ↔ D a b) ∧ sumE E (fun _ => false) ≤ B
theorem EI.ext {w wr wr' E D B} (h : EI w wr E D B) (he : Ext wr wr') : EI w wr' E D B := ⟨h.1.trans he, h.2.1.ext he, h.2.2.1, h.2.2.2⟩
theorem EI.on {w wr E D D' B B'} (h : EI w wr E D B) (hd : ∀ a b, D a b ↔ D' a b) (hb : B ≤ B') : EI w wr E D' B' :=
  ⟨h.1, h.2.1, fun a b => (h.2.2.1 a b).trans (hd a b), Nat.le_trans h.2.2.2 hb⟩

theorem upd_mem {E : Nat → List Nat} {a b c d : Nat} : d ∈ upd E a b c ↔ d ∈ E c ∨ (c = a ∧ d = b) := by
  unfold upd
  by_cases h : c = a
  · subst h; simp
  · simp [h]
theorem EI.put {w wr w1 E D B a b} {v v' : Value} (h : EI w wr E D B) (ha : a < 256) (hv : wr.cell? ⟨w.heap.size, a, none⟩ = some v) (ho : Own w1 3 1 v' ((E a).length + 1) (ints (E a) ++ [.int .i64 (b : Int)]))
    (hm : Mod (fun k => v.ownBlock = some k) wr w1) (hb : ∀ k, v'.ownBlock = some k → v.ownBlock = some k ∨ wr.heap.size ≤ k) (hlo : ∀ k, v.ownBlock = some k → w.heap.size ≤ k) :
    EI w (w1.setCell ⟨w.heap.size, a, none⟩ v') (upd E a b) (fun c d => D c d ∨ (c = a ∧ d = b)) (B + 1) :=
  ⟨(Mod.trans (S := fun _ => False) h.1 hm (fun i hi hs => by have := hlo i hs; omega)).setCell _ _ (fun hlt => absurd hlt (Nat.lt_irrefl _)), h.2.1.put h.1.size hv ho hm hb,
    fun c d => by rw [upd_mem, h.2.2.1], by rw [sumE_upd _ _ _ ha]; have := h.2.2.2; omega⟩
theorem take_or {ls : List Lk} {j : Nat} {y : Lk} (hy : ls[j]? = some y) {P : Lk → Prop} : (∃ z, z ∈ ls.take (j + 1) ∧ P z) ↔ (∃ z, z ∈ ls.take j ∧ P z) ∨ P y := by
  obtain ⟨h1, h2⟩ := List.getElem?_eq_some_iff.1 hy
  rw [List.take_succ_eq_append_getElem h1, h2]
  constructor
  · rintro ⟨z, hz, hp⟩
    rcases List.mem_append.1 hz with hz | hz
    · exact .inl ⟨z, hz, hp⟩
    · rw [List.mem_singleton.1 hz] at hp; exact .inr hp
  · rintro (⟨z, hz, hp⟩ | hp)
    · exact ⟨z, List.mem_append.2 (.inl hz), hp⟩
    · exact ⟨y, List.mem_append.2 (.inr (List.mem_singleton.2 rfl)), hp⟩
/-- The edges of the waiting one k: with the held ones up to j. -/
def DH (H W : List Lk) (k : Nat) (x : Lk) (j : Nat) (a b : Nat) : Prop := Ahead H W a k b ∨ (x.who = a ∧ ∃ y, y ∈ H.take j ∧ meetB x y = true ∧ y.who = b)
/-- .. with all held ones, and the waiting ones up to j. -/
def DW (H W : List Lk) (k : Nat) (x : Lk) (j : Nat) (a b : Nat) : Prop := DH H W k x H.length a b ∨ (x.who = a ∧ ∃ y, y ∈ W.take j ∧ meetB x y = true ∧ y.who = b)
theorem DH.no {H W : List Lk} {k j : Nat} {x y : Lk} (hy : H[j]? = some y) (hm : meetB x y = false) (a b : Nat) : DH H W k x j a b ↔ DH H W k x (j + 1) a b := by
  unfold DH
  rw [take_or hy]
  simp [hm]
theorem DH.yes {H W : List Lk} {k j xa ya : Nat} {x y : Lk} (hy : H[j]? = some y) (hm : meetB x y = true) (hx : x.who = xa) (hyy : y.who = ya) (a b : Nat) : DH H W k x j a b ∨ (a = xa ∧ b = ya) ↔ DH H W k x (j + 1) a b := by
  unfold DH
  rw [take_or hy, hm, hx, hyy]
  constructor
  · rintro ((h | ⟨h1, h2⟩) | ⟨h1, h2⟩)
    · exact .inl h
    · exact .inr ⟨h1, .inl h2⟩
    · exact .inr ⟨by omega, .inr ⟨rfl, by omega⟩⟩
  · rintro (h | ⟨h1, h2 | ⟨-, h2⟩⟩)
    · exact .inl (.inl h)
    · exact .inl (.inr ⟨h1, h2⟩)
    · exact .inr ⟨by omega, by omega⟩
theorem DW.no {H W : List Lk} {k j : Nat} {x y : Lk} (hy : W[j]? = some y) (hm : meetB x y = false) (a b : Nat) : DW H W k x j a b ↔ DW H W k x (j + 1) a b := by
  unfold DW
  rw [take_or hy]
  simp [hm]
theorem DW.yes {H W : List Lk} {k j xa ya : Nat} {x y : Lk} (hy : W[j]? = some y) (hm : meetB x y = true) (hx : x.who = xa) (hyy : y.who = ya) (a b : Nat) : DW H W k x j a b ∨ (a = xa ∧ b = ya) ↔ DW H W k x (j + 1) a b := by
  unfold DW
  rw [take_or hy, hm, hx, hyy]
  constructor
  · rintro ((h | ⟨h1, h2⟩) | ⟨h1, h2⟩)
    · exact .inl h
    · exact .inr ⟨h1, .inl h2⟩
    · exact .inr ⟨by omega, .inr ⟨rfl, by omega⟩⟩
  · rintro (h | ⟨h1, h2 | ⟨-, h2⟩⟩)
    · exact .inl (.inl h)
    · exact .inl (.inr ⟨h1, h2⟩)
    · exact .inr ⟨by omega, by omega⟩
theorem DW.all {H W : List Lk} {k : Nat} {x : Lk} (hx : W[k]? = some x) (a b : Nat) : DW H W k x k a b ↔ Ahead H W a (k + 1) b := by
  unfold DW DH
  rw [List.take_length]
  constructor
  · rintro ((⟨i, hi, r⟩ | ⟨h1, y, h2, h3, h4⟩) | ⟨h1, y, h2, h3, h4⟩)
    · exact ⟨i, by omega, r⟩
    · exact ⟨k, by omega, x, y, hx, h1, .inl h2, h3, h4⟩
    · exact ⟨k, by omega, x, y, hx, h1, .inr h2, h3, h4⟩
  · rintro ⟨i, hi, x', y, hx', h1, h2, h3, h4⟩
    by_cases hik : i = k
    · subst hik
      rw [hx] at hx'
      obtain rfl := Option.some.inj hx'
      rcases h2 with h2 | h2
      · exact .inl (.inr ⟨h1, y, h2, h3, h4⟩)
      · exact .inr ⟨h1, y, h2, h3, h4⟩
    · exact .inl (.inl ⟨i, by omega, x', y, hx', h1, h2, h3, h4⟩)

def CircR (H W : List Lk) (w : World) (e : Ending) (w' : World) : Prop := ∃ r : Bool, e = .returned (.bool r) ∧ (r = true ↔ ∃ a, Way H W a a) ∧ Ext w w'

set_option maxRecDepth 20000 in
set_option maxHeartbeats 20000000 in
theorem refcircle_any (A C : Option Addr) (ch cw : Nat) (H W : List Lk) (w : World) (hH : LkSl w A H.length H) (hW : LkSl w C W.length W) (okH : ∀ l ∈ H, mayB l = true) (okW : ∀ l ∈ W, mayB l = true)
    (hl : H.length ≤ 256) (wl : W.length ≤ 256) :
    Calls Try.prog 33 #[.slice A H.length ch, .slice C W.length cw] w (CircR H W w) := by
  have HH := Lib.hid hH
  have HW := Lib.hid hW
  have OH := Lib.hid okH
  have OW := Lib.hid okW
  clear hH hW okH okW
  obtain ⟨X, HX, hmk⟩ : ∃ X : Obj, Hid (X = .cells (Array.replicate 256 (.slice none 0 0)) 63) ∧ ∀ w, (Instr.makeSlice 62 (.int .i64 256) (.int .i64 256)).run Try.prog w = .ok (.slice (some ⟨w.heap.size, 0, none⟩) 256 256) (w.alloc X) := ⟨_, rfl, fun _ => by kernel_rfl⟩
  obtain ⟨Y, HY, hmb⟩ : ∃ Y : Obj, Hid (Y = .cells (Array.replicate 256 (.bool false)) 4) ∧ ∀ w, (Instr.makeSlice 52 (.int .i64 256) (.int .i64 256)).run Try.prog w = .ok (.slice (some ⟨w.heap.size, 0, none⟩) 256 256) (w.alloc Y) := ⟨_, rfl, fun _ => by kernel_rfl⟩
  have H0 : Hid (EI w (w.alloc X) (fun _ => []) (fun a b => Ahead H W a 0 b) 0) := by
    rw [HX.out]
    refine ⟨(Ext.refl _).alloc _, ⟨_, heap_alloc_new w _, by simp, fun a v hv => ?_, fun a b u v k hu hv hk => ?_⟩, fun a b => ⟨fun h => by simp at h, fun ⟨i, hi, _⟩ => by omega⟩, ?_⟩
    · obtain ⟨h1, h2⟩ := Array.getElem?_eq_some_iff.1 hv
      simp at h2
      subst h2
      exact ⟨Own.nil _ _ _, fun k h => by simp [Value.ownBlock] at h⟩
    · obtain ⟨h1, h2⟩ := Array.getElem?_eq_some_iff.1 hu
      simp at h2
      subst h2
      simp [Value.ownBlock] at hk
    · have : ∀ n, ((List.range n).map fun _ => (if false = true then 0 else ([] : List Nat).length)).sum = 0 := fun n => by
        induction n with
        | zero => rfl
        | succ n ih => rw [List.range_succ, List.map_append, List.sum_append, ih]; rfl
      exact Nat.le_of_eq (this 256)
  obtain ⟨i, hi, hz, hs, hby⟩ := info_parts Try.info3
  go_enter Try.func33, Try.ntmps33
  go_wp2_with fail
  go_loopw [6] (fun i wr => ∃ (k : Nat) (E : Nat → List Nat), k ≤ W.length ∧ i = .int .i64 k ∧ EI w wr E (fun a b => Ahead H W a k b) (k * 512)) (fun i _ => W.length - (intOf i).toNat)
  case atStart => exact ⟨0, _, Nat.zero_le _, rfl, H0.out.on (fun _ _ => Iff.rfl) (by omega)⟩
  case round =>
    obtain ⟨k, E, hk, rfl, hE⟩ := hrel
    have HE := Lib.hid hE
    clear hE
    by_cases hlt : k < W.length
    · obtain ⟨b, off, rfl, hb, hce⟩ := HW.out.2 (by omega)
      have hx4 := hce k W[k] (List.getElem?_eq_getElem hlt)
      obtain ⟨x1, x2, x3, x4, x5, x6⟩ := (may_iff _).1 (OW.out W[k] (List.getElem_mem hlt))
      obtain ⟨x, hxe⟩ : ∃ x, W[k] = x := ⟨_, rfl⟩
      have Hx : Hid (W[k]? = some x) := by show _ = _; rw [List.getElem?_eq_getElem hlt, hxe]
      have Hce := Lib.hid hce
      rw [hxe] at hx4 x1 x2 x3 x4 x5 x6
      clear hxe hce
      obtain ⟨xw, xp, xn, xs⟩ := x
      simp only at x1 x2 x3 x4 x5 x6
      obtain ⟨xa, rfl⟩ := Int.eq_ofNat_of_zero_le x1
      have Hx4 : Hid (LkAt w b (off + k * 4) ⟨xa, xp, xn, xs⟩) := hx4
      have hxa : xa < 256 := by omega
      clear hx4 x1
      go_wp2_with fail
      obtain ⟨wo, rfl⟩ : ∃ wo : World, wo = wr := ⟨_, rfl⟩
      go_loopw [7] (fun i wr => ∃ (j : Nat) (E : Nat → List Nat), j ≤ H.length ∧ i = .int .i64 j ∧ EI w wr E (DH H W k ⟨xa, xp, xn, xs⟩ j) (k * 512 + j)) (fun i _ => H.length - (intOf i).toNat)
      case atStart => exact ⟨0, E, Nat.zero_le _, rfl, HE.out.on (fun a b => ⟨fun h => .inl h, fun h => by rcases h with h | ⟨-, y, hy, -⟩; exact h; simp at hy⟩) (by omega)⟩
      case round =>
        obtain ⟨j, E, hj, rfl, hE⟩ := hrel
        have HE := Lib.hid hE
        clear hE
        by_cases hjl : j < H.length
        · obtain ⟨bh, oh, rfl, hbh, hch⟩ := HH.out.2 (by omega)
          have hy4 := hch j H[j] (List.getElem?_eq_getElem hjl)
          obtain ⟨y1, y2, y3, y4, y5, y6⟩ := (may_iff _).1 (OH.out H[j] (List.getElem_mem hjl))
          obtain ⟨y, hye⟩ : ∃ y, H[j] = y := ⟨_, rfl⟩
          have Hy : Hid (H[j]? = some y) := by show _ = _; rw [List.getElem?_eq_getElem hjl, hye]
          rw [hye] at hy4 y1 y2 y3 y4 y5 y6
          clear hye hch
          obtain ⟨yw, yp, yn, ys⟩ := y
          simp only at y1 y2 y3 y4 y5 y6
          obtain ⟨ya, rfl⟩ := Int.eq_ofNat_of_zero_le y1
          have Hy4 : Hid (LkAt w bh (oh + j * 4) ⟨ya, yp, yn, ys⟩) := hy4
          clear hy4 y1
          have p0 : ∀ wx, Ext wr wx → wx.cell? ⟨b, off + k * 4, none⟩ = some (.int .i64 xa) := fun wx h => ((HE.out.1.trans h).cell hb).trans Hx4.out.1
          have p1 : ∀ wx, Ext wr wx → wx.cell? ⟨b, off + k * 4 + 1, none⟩ = some (.int .i64 xp) := fun wx h => ((HE.out.1.trans h).cell hb).trans Hx4.out.2.1
          have p2 : ∀ wx, Ext wr wx → wx.cell? ⟨b, off + k * 4 + 2, none⟩ = some (.int .i64 xn) := fun wx h => ((HE.out.1.trans h).cell hb).trans Hx4.out.2.2.1
          have p3 : ∀ wx, Ext wr wx → wx.cell? ⟨b, off + k * 4 + 3, none⟩ = some (.bool xs) := fun wx h => ((HE.out.1.trans h).cell hb).trans Hx4.out.2.2.2
          have q0 : ∀ wx, Ext wr wx → wx.cell? ⟨bh, oh + j * 4, none⟩ = some (.int .i64 ya) := fun wx h => ((HE.out.1.trans h).cell hbh).trans Hy4.out.1
          have q1 : ∀ wx, Ext wr wx → wx.cell? ⟨bh, oh + j * 4 + 1, none⟩ = some (.int .i64 yp) := fun wx h => ((HE.out.1.trans h).cell hbh).trans Hy4.out.2.1
          have q2 : ∀ wx, Ext wr wx → wx.cell? ⟨bh, oh + j * 4 + 2, none⟩ = some (.int .i64 yn) := fun wx h => ((HE.out.1.trans h).cell hbh).trans Hy4.out.2.2.1
          have q3 : ∀ wx, Ext wr wx → wx.cell? ⟨bh, oh + j * 4 + 3, none⟩ = some (.bool ys) := fun wx h => ((HE.out.1.trans h).cell hbh).trans Hy4.out.2.2.2
          go_wp2_with fail
          refine region_lin (fun wx => Ext wr wx) 8 [(0, 3), (1, 3), (2, 3), (3, 0), (4, 3), (5, 3), (6, 3), (7, 0), (8, 2)] ?_ (by kernel_rfl) (by kernel_rfl) ?_ (fun _ _ _ _ _ h => h) ((Ext.refl _).drew) ?_
          rotate_left
          (simp only [planOps, List.mapM_cons, List.mapM_nil, List.getElem?_toArray, List.getElem?_cons_zero, List.getElem?_cons_succ, Option.map_some, Option.bind_eq_bind, Option.bind_some, Option.pure_def]; rfl)
          intro wd hwd hxd
          clear hxd
          repeat (first | (refine lin_take ?_ (by rfl) (fun wx hx => ?_) ?_; rotate_left; go_simp; (with_reducible rfl); try simp only [Act.put, List.setIfInBounds_toArray, List.set_cons_zero, List.set_cons_succ]) | (refine lin_skip (by rfl) ?_; try simp only [Act.put, List.setIfInBounds_toArray, List.set_cons_zero, List.set_cons_succ]) | (refine lin_take3 ?_ (by rfl) (fun wx hx => ?_) ?_; rotate_left; go_simp; (with_reducible rfl); try simp only [Act.put, List.setIfInBounds_toArray, List.set_cons_zero, List.set_cons_succ]))
          refine lin_last (by rfl) (fun K hK => ?_)
          go_simp
          refine (refmeet_any _ _ _ _ _ _ _ _ _ x3 x4 (by omega) y3 y4 (by omega)).mono ?_
          rintro e w2 ⟨rfl, hx2⟩
          refine hK _ _ trivial ?_
          try simp only [Act.put, List.setIfInBounds_toArray, List.set_cons_zero, List.set_cons_succ]
          have e5 := hwd.trans hx2
          have HE5 := Lib.hid (HE.out.ext e5)
          clear hwd hx2 p0 p1 p2 p3 q0 q1 q2 q3
          cases hm : meetB ⟨xa, xp, xn, xs⟩ ⟨ya, yp, yn, ys⟩ with
          | false =>
            have Hm := Lib.hid hm
            clear hm
            go_wp2_with fail
            go_roundw
            case rel => exact ⟨j + 1, E, by omega, by go_num, HE5.out.on (DH.no Hy.out Hm.out) (by omega)⟩
            case measure => simp [intOf]; omega
          | true =>
            have Hm := Lib.hid hm
            clear hm
            obtain ⟨A', c', hgc, hgo, hgl, hgn⟩ := HE5.out.2.1.get hxa
            have hgs : w.heap.size < w2.heap.size := HE5.out.2.1.lt
            have Hgo := Lib.hid hgo
            have Hgl := Lib.hid hgl
            have Hgn := Lib.hid hgn
            have Hgc := Lib.hid hgc
            have hws := HE5.out.1.size
            have hlen : (E xa).length ≤ 200000 := by
              have h1 := sumE_le E xa hxa
              have h2 := HE5.out.2.2.2
              omega
            have p0 : ∀ wx, Mod (fun k => (Value.slice A' (E xa).length c').ownBlock = some k) w2 wx → wx.cell? ⟨b, off + k * 4, none⟩ = some (.int .i64 xa) := fun wx h => (h.cell (by show b < _; omega) (fun hk => by have := Hgl.out b hk; omega)).trans ((HE5.out.1.cell hb).trans Hx4.out.1)
            have q0 : ∀ wx, Mod (fun k => (Value.slice A' (E xa).length c').ownBlock = some k) w2 wx → wx.cell? ⟨bh, oh + j * 4, none⟩ = some (.int .i64 ya) := fun wx h => (h.cell (by show bh < _; omega) (fun hk => by have := Hgl.out bh hk; omega)).trans ((HE5.out.1.cell hbh).trans Hy4.out.1)
            have r0 : ∀ wx, Mod (fun k => (Value.slice A' (E xa).length c').ownBlock = some k) w2 wx → wx.cell? ⟨w.heap.size, xa, none⟩ = some (.slice A' (E xa).length c') := fun wx h => (h.cell hgs Hgn.out).trans Hgc.out
            have rf : ∀ wx, Mod (fun k => (Value.slice A' (E xa).length c').ownBlock = some k) w2 wx → wx.frozen? ⟨w.heap.size, xa, none⟩ = false := fun wx h => (h.frozen hgs Hgn.out).trans (HE5.out.2.1.frozen xa)
            clear hgc hgo hgl hgn e5
            go_wp2_with fail
            refine region_lin (fun wx => Mod (fun k => (Value.slice A' (E xa).length c').ownBlock = some k) w2 wx) 22 [(0, 3), (1, 3), (2, 3), (3, 3), (4, 3), (5, 0), (6, 3), (7, 3), (8, 3), (9, 3), (10, 3), (11, 0), (12, 3), (13, 0), (14, 3), (15, 3), (16, 3), (17, 3), (18, 0), (19, 1), (20, 1), (21, 3), (22, 2)] ?_ (by kernel_rfl) (by kernel_rfl) ?_ (fun _ _ _ _ _ h => h) ((Mod.refl _ _).drew) ?_
            rotate_left
            (simp only [planOps, List.mapM_cons, List.mapM_nil, List.getElem?_toArray, List.getElem?_cons_zero, List.getElem?_cons_succ, Option.map_some, Option.bind_eq_bind, Option.bind_some, Option.pure_def]; rfl)
            intro wd hwd hxd
            repeat (first | (refine lin_take ?_ (by rfl) (fun wx hx => ?_) ?_; rotate_left; go_simp; (with_reducible rfl); try simp only [Act.put, List.setIfInBounds_toArray, List.set_cons_zero, List.set_cons_succ]) | (refine lin_skip (by rfl) ?_; try simp only [Act.put, List.setIfInBounds_toArray, List.set_cons_zero, List.set_cons_succ]) | (refine lin_take3 ?_ (by rfl) (fun wx hx => ?_) ?_; rotate_left; go_simp; (with_reducible rfl); try simp only [Act.put, List.setIfInBounds_toArray, List.set_cons_zero, List.set_cons_succ]))
            refine lin_run (by rfl) (fun K hK => ?_)
            go_simp
            refine hK _ _ (hwd.alloc _) ?_
            refine lin_run (by rfl) (fun K2 hK2 => ?_)
            refine wp_append_own_any _ (.tmp 48) (.tmp 54) 63 rfl 3 i _ 1 8 Try.underlying63 hi hz hs hby rfl (by decide) (.slice A' (E xa).length c') (E xa).length (ints (E xa)) rfl (Hgo.out.ext (hxd.alloc _)) (some ⟨wd.heap.size, 0, none⟩) 1 1 [.int .i64 (ya : Int)] rfl rfl
              (fun _ => ⟨_, rfl, new_cells _ _ _⟩) (ints_one [ya]) (by unfold maxLen; omega) (by omega) ?_
            intro v' w3 ho hg hv'
            have hw3 := (hwd.alloc (.cells #[.int .i64 (ya : Int)] 3)).grown hg (fun k hk _ => hk)
            have HEd := HE5.out.ext (hxd.alloc (.cells #[.int .i64 (ya : Int)] 3))
            have HEn : Hid (EI w (w3.setCell ⟨w.heap.size, xa, none⟩ v') (upd E xa ya) (DH H W k ⟨xa, xp, xn, xs⟩ (j + 1)) (k * 512 + (j + 1))) := by
              refine (HEd.put (b := ya) hxa (((hxd.alloc _).cell hgs).trans Hgc.out) ho ((Mod.refl _ _).grown hg (fun k h _ => h)) (fun k hk => ?_) Hgl.out).on (DH.yes Hy.out Hm.out rfl rfl) (by omega)
              rcases hv' with h | h
              · exact .inl (h ▸ hk)
              · rw [h] at hk; injection hk with hk; right; omega
            obtain ⟨A2, c2, rfl, -, -⟩ := ho.form
            refine hK2 _ _ hw3 ?_
            clear ho hg hv' HEd
            try simp only [Act.put, List.setIfInBounds_toArray, List.set_cons_zero, List.set_cons_succ]
            repeat (first | (refine lin_take ?_ (by rfl) (fun wx hx => ?_) ?_; rotate_left; go_simp; (with_reducible rfl); try simp only [Act.put, List.setIfInBounds_toArray, List.set_cons_zero, List.set_cons_succ]) | (refine lin_skip (by rfl) ?_; try simp only [Act.put, List.setIfInBounds_toArray, List.set_cons_zero, List.set_cons_succ]) | (refine lin_take3 ?_ (by rfl) (fun wx hx => ?_) ?_; rotate_left; go_simp; (with_reducible rfl); try simp only [Act.put, List.setIfInBounds_toArray, List.set_cons_zero, List.set_cons_succ]))
            refine lin_last (by rfl) (fun K3 hK3 => ?_)
            go_simp
            refine hK3 _ _ trivial ?_
            clear p0 q0 r0 rf hwd hxd hw3
            generalize w3.setCell ⟨w.heap.size, xa, none⟩ (.slice A2 ((E xa).length + 1) c2) = w4 at *
            go_wp2_with fail
            go_roundw
            case rel => exact ⟨j + 1, upd E xa ya, by omega, by go_num, HEn.out⟩
            case measure => simp [intOf]; omega
        · have hjn : j = H.length := by omega
          have HE2 : Hid (EI w wr E (DW H W k ⟨xa, xp, xn, xs⟩ 0) (k * 512 + H.length + 0)) := by
            have := HE.out
            rw [hjn] at this
            exact this.on (fun a b => ⟨fun h => .inl h, fun h => by rcases h with h | ⟨-, y, hy, -⟩; exact h; simp at hy⟩) (by omega)
          clear hjn
          go_wp2_with fail
          obtain ⟨wp, rfl⟩ : ∃ wp : World, wp = wr := ⟨_, rfl⟩
          go_loopw [8] (fun i wr => ∃ (j : Nat) (E : Nat → List Nat), j ≤ k ∧ i = .int .i64 j ∧ EI w wr E (DW H W k ⟨xa, xp, xn, xs⟩ j) (k * 512 + H.length + j)) (fun i _ => k - (intOf i).toNat)
          case atStart => exact ⟨0, E, Nat.zero_le _, rfl, HE2.out⟩
          case round =>
            obtain ⟨j, E, hj, rfl, hE⟩ := hrel
            have HE := Lib.hid hE
            clear hE
            by_cases hjl : j < k
            · have hjw : j < W.length := by omega
              have hy4 := Hce.out j W[j] (List.getElem?_eq_getElem hjw)
              obtain ⟨y1, y2, y3, y4, y5, y6⟩ := (may_iff _).1 (OW.out W[j] (List.getElem_mem hjw))
              obtain ⟨y, hye⟩ : ∃ y, W[j] = y := ⟨_, rfl⟩
              have Hy : Hid (W[j]? = some y) := by show _ = _; rw [List.getElem?_eq_getElem hjw, hye]
              rw [hye] at hy4 y1 y2 y3 y4 y5 y6
              clear hye
              obtain ⟨yw, yp, yn, ys⟩ := y
              simp only at y1 y2 y3 y4 y5 y6
              obtain ⟨ya, rfl⟩ := Int.eq_ofNat_of_zero_le y1
              have Hy4 : Hid (LkAt w b (off + j * 4) ⟨ya, yp, yn, ys⟩) := hy4
              clear hy4 y1
              have p0 : ∀ wx, Ext wr wx → wx.cell? ⟨b, off + k * 4, none⟩ = some (.int .i64 xa) := fun wx h => ((HE.out.1.trans h).cell hb).trans Hx4.out.1
              have p1 : ∀ wx, Ext wr wx → wx.cell? ⟨b, off + k * 4 + 1, none⟩ = some (.int .i64 xp) := fun wx h => ((HE.out.1.trans h).cell hb).trans Hx4.out.2.1
              have p2 : ∀ wx, Ext wr wx → wx.cell? ⟨b, off + k * 4 + 2, none⟩ = some (.int .i64 xn) := fun wx h => ((HE.out.1.trans h).cell hb).trans Hx4.out.2.2.1
              have p3 : ∀ wx, Ext wr wx → wx.cell? ⟨b, off + k * 4 + 3, none⟩ = some (.bool xs) := fun wx h => ((HE.out.1.trans h).cell hb).trans Hx4.out.2.2.2
              have q0 : ∀ wx, Ext wr wx → wx.cell? ⟨b, off + j * 4, none⟩ = some (.int .i64 ya) := fun wx h => ((HE.out.1.trans h).cell hb).trans Hy4.out.1
              have q1 : ∀ wx, Ext wr wx → wx.cell? ⟨b, off + j * 4 + 1, none⟩ = some (.int .i64 yp) := fun wx h => ((HE.out.1.trans h).cell hb).trans Hy4.out.2.1
              have q2 : ∀ wx, Ext wr wx → wx.cell? ⟨b, off + j * 4 + 2, none⟩ = some (.int .i64 yn) := fun wx h => ((HE.out.1.trans h).cell hb).trans Hy4.out.2.2.1
              have q3 : ∀ wx, Ext wr wx → wx.cell? ⟨b, off + j * 4 + 3, none⟩ = some (.bool ys) := fun wx h => ((HE.out.1.trans h).cell hb).trans Hy4.out.2.2.2
              go_wp2_with fail
              refine region_lin (fun wx => Ext wr wx) 8 [(0, 3), (1, 3), (2, 3), (3, 0), (4, 3), (5, 3), (6, 3), (7, 0), (8, 2)] ?_ (by kernel_rfl) (by kernel_rfl) ?_ (fun _ _ _ _ _ h => h) ((Ext.refl _).drew) ?_
              rotate_left
              (simp only [planOps, List.mapM_cons, List.mapM_nil, List.getElem?_toArray, List.getElem?_cons_zero, List.getElem?_cons_succ, Option.map_some, Option.bind_eq_bind, Option.bind_some, Option.pure_def]; rfl)
              intro wd hwd hxd
              clear hxd
              repeat (first | (refine lin_take ?_ (by rfl) (fun wx hx => ?_) ?_; rotate_left; go_simp; (with_reducible rfl); try simp only [Act.put, List.setIfInBounds_toArray, List.set_cons_zero, List.set_cons_succ]) | (refine lin_skip (by rfl) ?_; try simp only [Act.put, List.setIfInBounds_toArray, List.set_cons_zero, List.set_cons_succ]) | (refine lin_take3 ?_ (by rfl) (fun wx hx => ?_) ?_; rotate_left; go_simp; (with_reducible rfl); try simp only [Act.put, List.setIfInBounds_toArray, List.set_cons_zero, List.set_cons_succ]))
              refine lin_last (by rfl) (fun K hK => ?_)
              go_simp
              refine (refmeet_any _ _ _ _ _ _ _ _ _ x3 x4 (by omega) y3 y4 (by omega)).mono ?_
              rintro e w2 ⟨rfl, hx2⟩
              refine hK _ _ trivial ?_
              try simp only [Act.put, List.setIfInBounds_toArray, List.set_cons_zero, List.set_cons_succ]
              have e5 := hwd.trans hx2
              have HE5 := Lib.hid (HE.out.ext e5)
              clear hwd hx2 p0 p1 p2 p3 q0 q1 q2 q3
              cases hm : meetB ⟨xa, xp, xn, xs⟩ ⟨ya, yp, yn, ys⟩ with
              | false =>
                have Hm := Lib.hid hm
                clear hm
                go_wp2_with fail
                go_roundw
                case rel => exact ⟨j + 1, E, by omega, by go_num, HE5.out.on (DW.no Hy.out Hm.out) (by omega)⟩
                case measure => simp [intOf]; omega
              | true =>
                have Hm := Lib.hid hm
                clear hm
                obtain ⟨A', c', hgc, hgo, hgl, hgn⟩ := HE5.out.2.1.get hxa
                have hgs : w.heap.size < w2.heap.size := HE5.out.2.1.lt
                have Hgo := Lib.hid hgo
                have Hgl := Lib.hid hgl
                have Hgn := Lib.hid hgn
                have Hgc := Lib.hid hgc
                have hws := HE5.out.1.size
                have hlen : (E xa).length ≤ 200000 := by
                  have h1 := sumE_le E xa hxa
                  have h2 := HE5.out.2.2.2
                  omega
                have p0 : ∀ wx, Mod (fun k => (Value.slice A' (E xa).length c').ownBlock = some k) w2 wx → wx.cell? ⟨b, off + k * 4, none⟩ = some (.int .i64 xa) := fun wx h => (h.cell (by show b < _; omega) (fun hk => by have := Hgl.out b hk; omega)).trans ((HE5.out.1.cell hb).trans Hx4.out.1)
                have q0 : ∀ wx, Mod (fun k => (Value.slice A' (E xa).length c').ownBlock = some k) w2 wx → wx.cell? ⟨b, off + j * 4, none⟩ = some (.int .i64 ya) := fun wx h => (h.cell (by show b < _; omega) (fun hk => by have := Hgl.out b hk; omega)).trans ((HE5.out.1.cell hb).trans Hy4.out.1)
                have r0 : ∀ wx, Mod (fun k => (Value.slice A' (E xa).length c').ownBlock = some k) w2 wx → wx.cell? ⟨w.heap.size, xa, none⟩ = some (.slice A' (E xa).length c') := fun wx h => (h.cell hgs Hgn.out).trans Hgc.out
                have rf : ∀ wx, Mod (fun k => (Value.slice A' (E xa).length c').ownBlock = some k) w2 wx → wx.frozen? ⟨w.heap.size, xa, none⟩ = false := fun wx h => (h.frozen hgs Hgn.out).trans (HE5.out.2.1.frozen xa)
                clear hgc hgo hgl hgn e5
                go_wp2_with fail
                refine region_lin (fun wx => Mod (fun k => (Value.slice A' (E xa).length c').ownBlock = some k) w2 wx) 22 [(0, 3), (1, 3), (2, 3), (3, 3), (4, 3), (5, 0), (6, 3), (7, 3), (8, 3), (9, 3), (10, 3), (11, 0), (12, 3), (13, 0), (14, 3), (15, 3), (16, 3), (17, 3), (18, 0), (19, 1), (20, 1), (21, 3), (22, 2)] ?_ (by kernel_rfl) (by kernel_rfl) ?_ (fun _ _ _ _ _ h => h) ((Mod.refl _ _).drew) ?_
                rotate_left
                (simp only [planOps, List.mapM_cons, List.mapM_nil, List.getElem?_toArray, List.getElem?_cons_zero, List.getElem?_cons_succ, Option.map_some, Option.bind_eq_bind, Option.bind_some, Option.pure_def]; rfl)
                intro wd hwd hxd
                repeat (first | (refine lin_take ?_ (by rfl) (fun wx hx => ?_) ?_; rotate_left; go_simp; (with_reducible rfl); try simp only [Act.put, List.setIfInBounds_toArray, List.set_cons_zero, List.set_cons_succ]) | (refine lin_skip (by rfl) ?_; try simp only [Act.put, List.setIfInBounds_toArray, List.set_cons_zero, List.set_cons_succ]) | (refine lin_take3 ?_ (by rfl) (fun wx hx => ?_) ?_; rotate_left; go_simp; (with_reducible rfl); try simp only [Act.put, List.setIfInBounds_toArray, List.set_cons_zero, List.set_cons_succ]))
                refine lin_run (by rfl) (fun K hK => ?_)
                go_simp
                refine hK _ _ (hwd.alloc _) ?_
                refine lin_run (by rfl) (fun K2 hK2 => ?_)
                refine wp_append_own_any _ (.tmp 84) (.tmp 90) 63 rfl 3 i _ 1 8 Try.underlying63 hi hz hs hby rfl (by decide) (.slice A' (E xa).length c') (E xa).length (ints (E xa)) rfl (Hgo.out.ext (hxd.alloc _)) (some ⟨wd.heap.size, 0, none⟩) 1 1 [.int .i64 (ya : Int)] rfl rfl
                  (fun _ => ⟨_, rfl, new_cells _ _ _⟩) (ints_one [ya]) (by unfold maxLen; omega) (by omega) ?_
                intro v' w3 ho hg hv'
                have hw3 := (hwd.alloc (.cells #[.int .i64 (ya : Int)] 3)).grown hg (fun k hk _ => hk)
                have HEd := HE5.out.ext (hxd.alloc (.cells #[.int .i64 (ya : Int)] 3))
                have HEn : Hid (EI w (w3.setCell ⟨w.heap.size, xa, none⟩ v') (upd E xa ya) (DW H W k ⟨xa, xp, xn, xs⟩ (j + 1)) (k * 512 + H.length + (j + 1))) := by
                  refine (HEd.put (b := ya) hxa (((hxd.alloc _).cell hgs).trans Hgc.out) ho ((Mod.refl _ _).grown hg (fun k h _ => h)) (fun k hk => ?_) Hgl.out).on (DW.yes Hy.out Hm.out rfl rfl) (by omega)
                  rcases hv' with h | h
                  · exact .inl (h ▸ hk)
                  · rw [h] at hk; injection hk with hk; right; omega
                obtain ⟨A2, c2, rfl, -, -⟩ := ho.form
                refine hK2 _ _ hw3 ?_
                clear ho hg hv' HEd
                try simp only [Act.put, List.setIfInBounds_toArray, List.set_cons_zero, List.set_cons_succ]
                repeat (first | (refine lin_take ?_ (by rfl) (fun wx hx => ?_) ?_; rotate_left; go_simp; (with_reducible rfl); try simp only [Act.put, List.setIfInBounds_toArray, List.set_cons_zero, List.set_cons_succ]) | (refine lin_skip (by rfl) ?_; try simp only [Act.put, List.setIfInBounds_toArray, List.set_cons_zero, List.set_cons_succ]) | (refine lin_take3 ?_ (by rfl) (fun wx hx => ?_) ?_; rotate_left; go_simp; (with_reducible rfl); try simp only [Act.put, List.setIfInBounds_toArray, List.set_cons_zero, List.set_cons_succ]))
                refine lin_last (by rfl) (fun K3 hK3 => ?_)
                go_simp
                refine hK3 _ _ trivial ?_
                clear p0 q0 r0 rf hwd hxd hw3
                generalize w3.setCell ⟨w.heap.size, xa, none⟩ (.slice A2 ((E xa).length + 1) c2) = w4 at *
                go_wp2_with fail
                go_roundw
                case rel => exact ⟨j + 1, upd E xa ya, by omega, by go_num, HEn.out⟩
                case measure => simp [intOf]; omega
            · have hjk : j = k := by omega
              have HE3 : Hid (EI w wr E (fun a b => Ahead H W a (k + 1) b) ((k + 1) * 512)) := by
                have := HE.out
                rw [hjk] at this
                exact this.on (DW.all Hx.out) (by omega)
              clear hjk
              go_wp2_with fail
              go_roundw
              case rel => exact ⟨k + 1, E, by omega, by go_num, HE3.out⟩
              case measure => simp [intOf]; omega
    · have hkn : k = W.length := by omega
      have HEE : Hid (∀ a b : Nat, b ∈ E a ↔ Edge H W a b) := fun a b => by
        have := HE.out.2.2.1 a b
        rw [hkn] at this
        exact this.trans ahead_edge
      have HET : Hid (ET wr w.heap.size w.heap.size E) := HE.out.2.1
      have Hsum : Hid (True ∧ sumE E (fun _ => false) ≤ 131072) := by refine ⟨trivial, ?_⟩; have := HE.out.2.2.2; omega
      have Hw : Hid (Ext w wr) := HE.out.1
      clear hkn HE
      go_wp2_with fail
      obtain ⟨w5, rfl⟩ : ∃ w5 : World, w5 = wr := ⟨_, rfl⟩
      go_loopw [9] (fun i wr => ∃ q : Nat, q ≤ 256 ∧ i = .int .i64 q ∧ Ext w5 wr ∧ ∀ a : Nat, a < q → ¬ Way H W a a) (fun i _ => 256 - (intOf i).toNat)
      case atStart => exact ⟨0, Nat.zero_le _, rfl, Ext.refl _, fun a h => by omega⟩
      case round =>
        obtain ⟨q, hq, rfl, hx, hno⟩ := hrel
        have HX := Lib.hid hx
        have HNo := Lib.hid hno
        clear hx hno
        by_cases hq256 : q < 256
        · obtain ⟨A', c', hgc, hgo, -, -⟩ := (HET.out.ext HX.out).get hq256
          have hgl := (HET.out.ext HX.out).lt
          have hlen : (E q).length ≤ 131072 := Nat.le_trans (sumE_le E q hq256) Hsum.out.2
          have Hgo := Lib.hid hgo
          have e2 : Ext wr ((wr.alloc Y).alloc (.cells #[] 3)) := ((Ext.refl _).alloc _).alloc _
          have k0 := (e2.cell hgl).trans hgc
          have Hnews : Hid (∀ j u, (ints (E q))[j]? = some u → ∀ bd, A' = some bd → ((wr.alloc Y).alloc (.cells #[] 3)).cell? (bd.add j) = some u) := fun j u hu bd hbd => by
            obtain ⟨A2, c2, hv, -, hA2⟩ := hgo.form
            injection hv with h1 _ h3
            subst h1
            obtain ⟨g, o, he, hg⟩ := hA2 (by have := (List.getElem?_eq_some_iff.1 hu).1; rw [ints_length] at this; omega)
            rw [hbd] at he
            injection he with he
            subst he
            rw [add_off]
            exact (hgo.ext e2).cells (by rw [hbd]) j u hu
          have HA : Hid (0 < (E q).length → ∃ bd, A' = some bd) := fun h => by
            obtain ⟨A2, c2, hv, -, hA2⟩ := hgo.form
            injection hv with h1 _ h3
            subst h1
            obtain ⟨g, o, he, hg⟩ := hA2 h
            exact ⟨_, he⟩
          have HEm : Hid (Own ((wr.alloc Y).alloc (.cells #[] 3)) 3 1 (.slice (some ⟨wr.heap.size + 1, 0, none⟩) 0 0) 0 []) := Lib.hid (by have := Own.empty (wr.alloc Y) 3 1; simpa using this)
          have Hnw : Hid (0 < (E q).length → ∃ ad, A' = some ad ∧ ∀ j u, (ints (E q))[j]? = some u → ((wr.alloc Y).alloc (.cells #[] 3)).cell? (ad.add j) = some u) := fun h => by
            obtain ⟨bd, hbd⟩ := HA.out h
            exact ⟨bd, hbd, fun j u hu => Hnews.out j u hu bd hbd⟩
          clear hgc hgo e2
          go_wp2_with (at_builtin; refine wpList_append_own_any _ rfl (.tmp 98) (.tmp 102) 63 rfl 3 i _ 1 8 Try.underlying63 hi hz hs hby rfl (by decide) (.slice (some ⟨wr.heap.size + 1, 0, none⟩) 0 0) 0 [] rfl HEm.out A' (E q).length c' (ints (E q)) rfl (by rw [ints_length]; omega) Hnw.out (ints_one _) (by unfold maxLen; omega) (by omega) ?_)
          intro v' w6 ho hg hv'
          have hx6 : Ext wr w6 := (((Ext.refl _).alloc Y).alloc _).grown hg (fun k h => by simp [Value.ownBlock] at h; omega)
          have Hlo6 : Hid (∀ k, v'.ownBlock = some k → wr.heap.size < k) := fun k hk => by
            rcases hv' with h | h
            · rw [h] at hk; simp [Value.ownBlock] at hk; omega
            · rw [h] at hk; injection hk with hk; omega
          have HB6 : Hid (BR2 w6 wr.heap.size (fun _ => false)) := by
            have h1 : BR2 (wr.alloc Y) wr.heap.size (fun _ => false) := ⟨_, by rw [HY.out]; exact heap_alloc_new wr _, by simp, fun i hi => by simp [hi]⟩
            have h2 : BR2 ((wr.alloc Y).alloc (.cells #[] 3)) wr.heap.size (fun _ => false) := h1.mod ((Ext.refl _).alloc _) (fun f => f)
            exact h2.mod (S := fun k => k = wr.heap.size + 1) ((Mod.refl _ _).grown hg (fun k h _ => by simp [Value.ownBlock] at h; omega)) (by omega)
          have HO6 := Lib.hid ho
          have Hx6 := Lib.hid hx6
          have HS6 : Hid (Srch E (fun a b => Way H W a b) q (fun _ => false) (E q) 0 262144) :=
            ⟨fun b hb => .one ((HEE.out q b).1 hb), fun j b hj => by omega, fun b hb => hb, fun a ha => by simp at ha, by have := Hsum.out.2; omega, fun b hb => by have := ((HEE.out q b).1 hb).small OH.out OW.out; omega, Nat.zero_le _⟩
          obtain ⟨A6, c6, rfl, -, -⟩ := ho.form
          clear ho hg hv' hx6 k0 HEm Hnw Hnews HA Hgo hlen hgl
          go_wp2_with fail
          obtain ⟨wq, rfl⟩ : ∃ wq : World, wq = wr := ⟨_, rfl⟩
          go_loopw [11, 12] (fun l i wr => ∃ (n : Nat) (f : Nat → Bool) (L : List Nat) (A : Option Addr) (c : Nat), i = .int .i64 n ∧ l = .slice A L.length c ∧ Ext wq wr ∧ Own wr 3 1 (.slice A L.length c) L.length (ints L) ∧ (∀ k, (Value.slice A L.length c).ownBlock = some k → wq.heap.size < k) ∧ BR2 wr wq.heap.size f ∧ Srch E (fun a b => Way H W a b) q f L n 262144) (fun _ i _ => 262144 - (intOf i).toNat)
          case atStart => exact ⟨0, _, _, A6, c6, rfl, rfl, Hx6.out, HO6.out, Hlo6.out, HB6.out, HS6.out⟩
          case round =>
            obtain ⟨n, f, L, A, c, rfl, rfl, hx7, ho7, hl7, hb7, hs7⟩ := hrel
            have HX7 := Lib.hid hx7
            have HO7 := Lib.hid ho7
            have HL7 := Lib.hid hl7
            have HB7 := Lib.hid hb7
            have HS7 := Lib.hid hs7
            have hLB : L.length ≤ 262144 := by have := hs7.room; omega
            clear hx7 ho7 hl7 hb7 hs7
            by_cases hnl : n < L.length
            · obtain ⟨A2, c2, hv, -, hA2⟩ := HO7.out.form
              injection hv with h1 _ h3
              subst h1 h3
              obtain ⟨g, o, rfl, hg⟩ := hA2 (by omega)
              have cL := HO7.out.cells rfl n _ (ints_get hnl)
              have hbs := HS7.out.small _ (List.getElem_mem hnl)
              obtain ⟨b, hbe⟩ : ∃ b, L[n] = b := ⟨_, rfl⟩
              have Hbn : Hid (L[n]? = some b) := by show _ = _; rw [List.getElem?_eq_getElem hnl, hbe]
              rw [hbe] at cL hbs
              have cB := HB7.out.cell b hbs
              clear hA2 hbe
              by_cases hbq : b = q
              · have Hbq := Lib.hid hbq
                have Hret : Hid (Way H W q q) := by
                  have := HS7.out.way b (List.mem_of_getElem? Hbn.out)
                  rw [Hbq.out] at this
                  exact this
                clear cB
                go_wp2_with fail
                go_ret
                exact ⟨true, rfl, ⟨fun _ => ⟨q, Hret.out⟩, fun _ => rfl⟩, (Hw.out.trans HX.out).trans HX7.out⟩
              · have Hbq := Lib.hid hbq
                cases hfb : f b with
                | true =>
                  rw [hfb] at cB
                  have HSn : Hid (Srch E (fun a b => Way H W a b) q f L (n + 1) 262144) := HS7.out.skip Hbn.out Hbq.out hfb
                  clear hfb
                  go_wp2_with fail
                  go_roundw
                  case rel => exact ⟨n + 1, f, L, _, c, by go_num, rfl, HX7.out, HO7.out, HL7.out, HB7.out, HSn.out⟩
                  case measure => simp [intOf]; omega
                | false =>
                  rw [hfb] at cB
                  have HSn : Hid (Srch E (fun a b => Way H W a b) q (fun c => if c = b then true else f c) (L ++ E b) (n + 1) 262144) :=
                    HS7.out.grow Hbn.out Hbq.out hfb hbs (fun c hc => (HS7.out.way b (List.mem_of_getElem? Hbn.out)).snoc ((HEE.out b c).1 hc)) (fun c hc => by have := ((HEE.out b c).1 hc).small OH.out OW.out; omega)
                  clear hfb
                  obtain ⟨A8, c8, hgc8, hgo8, -, -⟩ := HET.out.get hbs
                  have hgt := HET.out.lt
                  have hgs := HX.out.size
                  have e8 : Ext w5 (wr.setCell ⟨wq.heap.size, b, none⟩ (.bool true)) := (HX.out.trans HX7.out).setCell _ _ hgs
                  have hO8 : Own (wr.setCell ⟨wq.heap.size, b, none⟩ (.bool true)) 3 1 (.slice (some ⟨g, o, none⟩) L.length c) L.length (ints L) :=
                    HO7.out.mod (S := fun k => k = wq.heap.size) ((Mod.refl _ _).setCell _ _ (fun _ => rfl)) (fun k hk e => by have := HL7.out k hk; omega)
                  have HO8 := Lib.hid hO8
                  have Hgo8 := Lib.hid (hgo8.ext e8)
                  have d1 : (wr.setCell ⟨wq.heap.size, b, none⟩ (.bool true)).cell? ⟨g, o + n, none⟩ = some (.int .i64 b) := by
                    have := hO8.cells rfl n _ (ints_get hnl)
                    rw [(List.getElem?_eq_some_iff.1 Hbn.out).2] at this
                    exact this
                  have d2 : (wr.setCell ⟨wq.heap.size, b, none⟩ (.bool true)).cell? ⟨w.heap.size, b, none⟩ = some (.slice A8 (E b).length c8) := (e8.cell hgt).trans hgc8
                  have fB := HB7.out.frozen b
                  have hroom : L.length + (E b).length ≤ 262144 := by have := HSn.out.room; rw [List.length_append] at this; omega
                  have HB8 : Hid (BR2 (wr.setCell ⟨wq.heap.size, b, none⟩ (.bool true)) wq.heap.size (fun c => if c = b then true else f c)) := HB7.out.set b
                  have HX8 : Hid (Ext wq (wr.setCell ⟨wq.heap.size, b, none⟩ (.bool true))) := HX7.out.setCell _ _ (Nat.le_refl _)
                  have Hnw : Hid (0 < (E b).length → ∃ ad, A8 = some ad ∧ ∀ j u, (ints (E b))[j]? = some u → (wr.setCell ⟨wq.heap.size, b, none⟩ (.bool true)).cell? (ad.add j) = some u) := fun h => by
                    obtain ⟨A9, c9, hv, -, hA9⟩ := Hgo8.out.form
                    injection hv with h1 _ h3
                    subst h1
                    obtain ⟨g9, o9, rfl, -⟩ := hA9 h
                    exact ⟨_, rfl, fun j u hu => by rw [add_off]; exact Hgo8.out.cells rfl j u hu⟩
                  clear hgc8 hgo8 hgt hO8 e8 hgs
                  go_wp2_with (at_builtin; refine wpList_append_own_any _ rfl (.tmp 130) (.tmp 137) 63 rfl 3 i _ 1 8 Try.underlying63 hi hz hs hby rfl (by decide) (.slice (some ⟨g, o, none⟩) L.length c) L.length (ints L) rfl HO8.out A8 (E b).length c8 (ints (E b)) rfl (by rw [ints_length]; omega) Hnw.out (ints_one _) (by unfold maxLen; omega) (by omega) ?_)
                  intro v' w9 ho hg9 hv'
                  have HX9 : Hid (Ext wq w9) := HX8.out.grown hg9 (fun k h => by have := HL7.out k h; omega)
                  have HL9 : Hid (∀ k, v'.ownBlock = some k → wq.heap.size < k) := fun k hk => by
                    rcases hv' with h | h
                    · exact HL7.out k (h ▸ hk)
                    · rw [h] at hk; injection hk with hk; have := HX7.out.size; have := HB7.out.lt; omega
                  have HB9 : Hid (BR2 w9 wq.heap.size (fun c => if c = b then true else f c)) :=
                    HB8.out.mod ((Mod.refl _ _).grown hg9 (fun k h _ => h)) (fun h => by have := HL7.out _ h; omega)
                  have HO9 : Hid (Own w9 3 1 v' (L ++ E b).length (ints (L ++ E b))) := by
                    show Own _ _ _ _ _ _
                    rw [List.length_append, ints_append]; exact ho
                  obtain ⟨A9, c9, rfl, -, -⟩ := ho.form
                  clear ho hg9 hv' d1 d2 fB
                  go_wp2_with fail
                  go_roundw
                  case rel => exact ⟨n + 1, _, L ++ E b, A9, c9, by go_num, by rw [List.length_append], HX9.out, by rw [List.length_append] at *; exact HO9.out, by rw [List.length_append]; exact HL9.out, HB9.out, HSn.out⟩
                  case measure => simp [intOf]; omega
            · have hne : n = L.length := by have := HS7.out.le; omega
              have Hno : Hid (¬ Way H W q q) := by
                have := HS7.out
                rw [hne] at this
                exact this.none OH.out OW.out HEE.out
              clear hne
              go_wp2_with fail
              go_roundw
              case rel => exact ⟨q + 1, by omega, by go_num, HX.out.trans HX7.out, fun a ha => by
                by_cases haq : a = q
                · subst haq; exact Hno.out
                · exact HNo.out a (by omega)⟩
              case measure => simp [intOf]; omega
        · have hq2 : q = 256 := by omega
          have Hno : Hid (¬ ∃ a, Way H W a a) := by
            rintro ⟨a, ha⟩
            have hs : 0 ≤ a ∧ a < 256 := by
              cases ha with
              | one e => exact (e.small OH.out OW.out).1
              | cons e _ => exact (e.small OH.out OW.out).1
            obtain ⟨a', rfl⟩ := Int.eq_ofNat_of_zero_le hs.1
            exact HNo.out a' (by omega) ha
          clear hq2
          go_wp2_with fail
          go_ret
          exact ⟨false, rfl, ⟨fun h => (by cases h), fun h => absurd h Hno.out⟩, Hw.out.trans HX.out⟩
end Go.Proofs.Ytpjgfkdnjkfnfaa
