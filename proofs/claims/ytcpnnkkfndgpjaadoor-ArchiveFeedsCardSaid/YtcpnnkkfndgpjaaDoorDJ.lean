/- Feed of the document's reader. -/
import Derived.Test.YtcpnnkkfndgpjaaDoorDI
import Derived.Test.YtcpnnkkfndgpjaaDoorEA
namespace Go.Proofs.YtcpnnkkfndgpjaaDoor
open Go.RowKit

set_option maxRecDepth 20000 in
theorem rfeed_torn (r : Nat) (A X : Option Addr) (n c m d : Nat) (B : Bs) (f t : Nat) (a : Bs) (h : Bool) (w : World) (hr : RfAt w r A n c B f t a true h) :
    Calls Tryd.prog 22 #[.pointer (some ⟨r, 0, none⟩), .slice X m d] w fun e w' => e = .returned (.tuple #[.slice none 0 0, .int .i64 260]) ∧ w = w' := by
  obtain ⟨d0, d1, d2, d3, d4, d5, f0⟩ := hr.cells
  clear hr f0
  go_enter Tryd.func22, Tryd.ntmps22
  go_wp2_with fail
  go_ret2
  exact ⟨rfl, rfl⟩
theorem RfAt.row {w w' : World} {r n c f t : Nat} {A : Option Addr} {B a : Bs} {torn whole : Bool} {v : Value} {k : Nat} {xs : List Value} (h : RfAt w r A n c B f t a torn whole) (ho : Own w 50 3 v k xs) (hm : Mod (fun k => v.ownBlock = some k) w w') : RfAt w' r A n c B f t a torn whole :=
  h.mod hm (fun e => by
    obtain ⟨cur', h4⟩ := ho.ty e
    rw [h.blk] at h4; injection h4 with h4; injection h4 with _ h4; exact absurd h4 (by decide)) (fun k hk e => by
    obtain ⟨cur', h4⟩ := ho.ty e
    obtain ⟨cur, h3⟩ := h.own.ty hk
    rw [h3] at h4; injection h4 with h4; injection h4 with _ h4; exact absurd h4 (by decide))
/-- What Feed leaves: the items, the document's reader. -/
def RFeedPost (Z : Sp) (x : Rd) (r : Nat) (A : Option Addr) (n c N : Nat) (w : World) (e : Ending) (w' : World) : Prop :=
  ∃ (vs : List IV) (q : Option Rd) (v : Value) (A' : Option Addr) (c' : Nat) (B' : Bs) (f' t' : Nat) (a' : Bs) (h' : Bool), Runs Z x (vs.map (·.x)) q ∧ ItMine w w' v vs ∧ Mod (fun k => k = r ∨ (Value.slice A n c).ownBlock = some k) w w' ∧
    e = .returned (.tuple #[v, .int .i64 (if q.isNone then 260 else 0)]) ∧ RfAt w' r A' N c' B' f' t' a' q.isNone h' ∧ f' ≤ N ∧ (∀ k, (Value.slice A' N c').ownBlock = some k → (Value.slice A n c).ownBlock = some k ∨ w.heap.size ≤ k) ∧ (∀ y, q = some y → SimAny Z y B' f' t' a' h' ∧ t' * 21 ≤ f')
/-- The state at each turn: wrong already; too few bytes to begin; under way. -/
inductive RState (Z : Sp) (x : Rd) (B : Bs) (f t : Nat) (a : Bs) (h : Bool) (l : List It) : Bool → Prop
  | bad (k : Runs Z x l none) : RState Z x B f t a h l true
  | few (k : Runs Z x l (some x)) (hx : SimAny Z x B f t a h) (hf : f = 0) (ht : t = 0) : RState Z x B f t a h l false
  | sim (y : Rd) (s : Sim Z y B f t a h) (ht : t * 21 ≤ f) (k : ∀ l' q, Runs Z y l' q → Runs Z x (l ++ l') q) : RState Z x B f t a h l false
structure RInv (Z : Sp) (x : Rd) (r : Nat) (A : Option Addr) (n c : Nat) (A2 : Option Addr) (N c2 : Nat) (B : Bs) (w : World) (g : Nat) (bad : Bool) (v : Value) (wx : World) (vs : List IV) (f t : Nat) (a : Bs) (h : Bool) : Prop where
  its : ItMine w wx v vs
  rd : RfAt wx r A2 N c2 B f t a false h
  fuel : B.length - f ≤ g
  cap : vs.length * 21 ≤ f
  le : f ≤ N
  md : Mod (fun k => k = r ∨ (Value.slice A n c).ownBlock = some k) w wx
  st : RState Z x B f t a h (vs.map (·.x)) bad
theorem rstate_first {Z : Sp} {y : Rd} {B l : Bs} {f t : Nat} {a : Bs} {h : Bool} (hs : SimAny Z y B f t a h) (ht : t * 21 ≤ f) :
    (¬ (f = 0 ∧ 4 ≤ (B ++ l).length) → RState Z (y.on l) (B ++ l) f t a h [] (!headOk (B ++ l))) ∧ (f = 0 ∧ 4 ≤ (B ++ l).length → RState Z (y.on l) (B ++ l) 4 t a h [] (!headOk (B ++ l))) := by
  rcases hs with ⟨rfl, rfl, rfl, rfl, rfl, hB⟩ | hs
  · rw [new_on]
    cases hh : headOk (B ++ l) with
    | false => exact ⟨fun _ => .bad (.tear (new_bad hh)), fun _ => .bad (.tear (new_bad hh))⟩
    | true =>
      refine ⟨fun h4 => ?_, fun h4 => ?_⟩
      · have h5 : (B ++ l).length < 4 := by omega
        exact .few (.stop (new_few hh h5)) (.inl ⟨rfl, rfl, rfl, rfl, rfl, h5⟩) rfl rfl
      · obtain ⟨y', h1, h2⟩ := new_four (Z := Z) hh h4.2
        exact .sim y' h2 (by omega) (fun l' q k => .step (o := none) h1 k)
  · have h2 := hs.on l
    rw [h2.head]
    have h4 := h2.four
    exact ⟨fun _ => .sim _ h2 ht (fun l' q k => k), fun h => absurd h.1 (by omega)⟩
set_option maxRecDepth 20000 in
set_option maxHeartbeats 16000000 in
theorem rfeed_any (Z : Sp) (hZ : Z.ok = okP) (r : Nat) (A X : Option Addr) (n c m d : Nat) (B l : Bs) (f t : Nat) (a : Bs) (h : Bool) (y : Rd) (w : World) (hr : RfAt w r A n c B f t a false h) (hs : SimAny Z y B f t a h) (ht : t * 21 ≤ f) (hfn : f ≤ n) (hl : BySl w X m l) (hn : n + m ≤ 1000000) :
    Calls Tryd.prog 22 #[.pointer (some ⟨r, 0, none⟩), .slice X m d] w (RFeedPost Z (y.on l) r A n c (n + m) w) := by
  have HR := Lib.hid hr
  have HL := Lib.hid hl
  have hbl : (B ++ l).length = n + m := by rw [List.length_append, ← hr.len, ← hl.1]
  have HS := Lib.hid (rstate_first (l := l) hs ht)
  have Ht : Hid (True ∧ t * 21 ≤ f) := ⟨trivial, ht⟩
  obtain ⟨d0, d1, d2, d3, d4, d5, f0⟩ := hr.cells
  have hrw := hr.lt
  obtain ⟨x, hx⟩ : ∃ x, y.on l = x := ⟨_, rfl⟩
  obtain ⟨i5, hi5, hz5, hsz5, hby5⟩ := info_parts Tryd.info5
  rw [hx] at HS ⊢
  clear hr hs hl ht f0 hx
  go_enter Tryd.func22, Tryd.ntmps22
  go_wp2_with (at_builtin; refine wpList_append_own_any _ rfl (.tmp 19) (.tmp 20) 26 rfl 5 i5 _ 1 1 Tryd.underlying26 hi5 hz5 hsz5 hby5 rfl (by decide) (.slice A n c) n (u8v B) rfl HR.out.own X m d (u8v l) rfl (by rw [u8v_len, Nat.mul_one, HL.out.1]) HL.out.news (u8v_one _) (by unfold maxLen; omega) (by omega) ?_)
  intro v2 w2 ho hg hv'
  have hng : ∀ k, (Value.slice A n c).ownBlock = some k → k < w.heap.size := fun k hk => HR.out.own.lt k hk
  have hmd : Mod (fun k => (Value.slice A n c).ownBlock = some k) w w2 := (Mod.refl _ _).grown hg (fun k e _ => e)
  have HB2 : Hid (w2.heap[r]? = some (.cells #[.slice A n c, .int .i64 (f : Int), .int .i64 (t : Int), .string (mkB a), .bool false, .bool h] 46 (0, 0))) := Lib.hid ((hmd.block _ hrw HR.out.apart).trans HR.out.blk)
  have HV2 : Hid (∀ k, v2.ownBlock = some k → (Value.slice A n c).ownBlock = some k ∨ w.heap.size ≤ k) := Lib.hid (fun k hk => by
    rcases hv' with h | h
    · exact .inl (h ▸ hk)
    · rw [h] at hk; injection hk with hk; exact .inr (by omega))
  have HO2 : Hid (Own w2 5 1 v2 (n + m) (u8v (B ++ l))) := Lib.hid (by rw [u8v_app]; exact ho)
  obtain ⟨A2, c2, rfl, -, -⟩ := ho.form
  have hr2 : (Value.slice A2 (n + m) c2).ownBlock ≠ some r := fun e => by
    rcases HV2.out r e with h | h
    · exact HR.out.apart h
    · omega
  have hms : Mod (fun k => k = r) w2 (w2.setCell ⟨r, 0, none⟩ (.slice A2 (n + m) c2)) := mod_set w2 r 0 _
  have HR3 : Hid (RfAt (w2.setCell ⟨r, 0, none⟩ (.slice A2 (n + m) c2)) r A2 (n + m) c2 (B ++ l) f t a false h) := Lib.hid ⟨heap_setCell_at HB2.out _, HO2.out.mod hms (fun k hk e => hr2 (e ▸ hk)), hr2⟩
  have HM3 : Hid (Mod (fun k => k = r ∨ (Value.slice A n c).ownBlock = some k) w (w2.setCell ⟨r, 0, none⟩ (.slice A2 (n + m) c2))) := Lib.hid ((hmd.mono (fun _ _ h => .inr h)).trans hms (fun i _ e => .inl e))
  have kR2 : w2.cell? ⟨r, 0, none⟩ = some (.slice A n c) := cell_of_row _ _ 0 _ 46 (0, 0) HB2.out
  have fR : w2.frozen? ⟨r, 0, none⟩ = false := by have := HB2.out; simp [World.frozen?, this]
  obtain ⟨N, hN⟩ : ∃ N, n + m = N := ⟨_, rfl⟩
  obtain ⟨B3, hB3⟩ : ∃ B3, B ++ l = B3 := ⟨_, rfl⟩
  rw [hN, hB3] at HR3
  rw [hN] at HM3 HV2 ⊢
  rw [hB3] at HS
  rw [hB3, hN] at hbl
  obtain ⟨w3, hw3⟩ : ∃ W, w2.setCell ⟨r, 0, none⟩ (.slice A2 N c2) = W := ⟨_, rfl⟩
  rw [hw3] at HR3 HM3
  have HW3 := Lib.hid hw3
  have Hbl := Lib.hid hbl
  have HN := Lib.hid hN
  have hfN : f ≤ N := by omega
  have hN1 : N ≤ 1000000 := by omega
  clear ho hg hv' hng hmd hms hr2 HO2 HB2 d0 d1 d2 d3 d4 d5 hw3 hbl hN hB3
  go_wp2_with fail
  rw [HW3.out]
  refine (rwrong_any r A2 N c2 B3 f t a false h w3 HR3.out).mono ?_
  rintro e w4 ⟨rfl, hx4⟩
  obtain ⟨bd0, hbd⟩ : ∃ b, (!headOk B3) = b := ⟨_, rfl⟩
  rw [hbd] at HS ⊢
  have HR4 := Lib.hid (HR3.out.ext hx4)
  have HM4 : Hid (Mod (fun k => k = r ∨ (Value.slice A n c).ownBlock = some k) w w4) := Lib.hid (HM3.out.trans hx4 (fun _ _ f => f.elim))
  have hr4 := HR4.out.cells
  obtain ⟨d0, d1, -, -, -, -, f0⟩ := hr4
  have f01 := f0 1
  clear kR2 fR hx4 hbd f0 HM3 HR3
  by_cases h04 : f = 0 ∧ 4 ≤ N
  · have HS4 : Hid (RState Z x B3 4 t a h [] bd0) := Lib.hid (HS.out.2 ⟨h04.1, by rw [Hbl.out]; exact h04.2⟩)
    have b0 : ((f : Int) == 0) = true := by rw [h04.1]; rfl
    have k4 : decide ((4 : Int) ≤ (N : Int)) = true := decide_eq_true (by omega)
    have HR5 : Hid (RfAt (w4.setCell ⟨r, 1, none⟩ (.int .i64 4)) r A2 N c2 B3 4 t a false h) := Lib.hid (HR4.out.setFrom 4)
    have HM5 : Hid (Mod (fun k => k = r ∨ (Value.slice A n c).ownBlock = some k) w (w4.setCell ⟨r, 1, none⟩ (.int .i64 4))) := Lib.hid (HM4.out.trans (mod_set w4 r 1 _) (fun _ _ e => .inl e))
    have hg4 : 4 ≤ N := h04.2
    clear h04
    go_wp2_with fail
    obtain ⟨w5, hw5⟩ : ∃ W, w4.setCell ⟨r, 1, none⟩ (.int .i64 4) = W := ⟨_, rfl⟩
    rw [hw5] at HR5 HM5 ⊢
    clear hw5 b0 k4 d0 d1 f01
    skip
    have HI5 : Hid (RInv Z x r A n c A2 N c2 B3 w N bd0 (.slice none 0 0) w5 [] (4+0) t a h) := Lib.hid
      { its := ItMine.nil _ _, rd := HR5.out, fuel := by rw [Hbl.out]; omega, cap := by simp, le := by omega, md := HM5.out, st := HS4.out }
    clear HR5 HM5 HS4
    go_loopg [6, 7] N (fun g bv lv wx => ∃ (bd : Bool) (LA : Option Addr) (ln lc : Nat) (vs : List IV) (f1 t1 : Nat) (a1 : Bs) (h1 : Bool), bv = .bool bd ∧ lv = .slice LA ln lc ∧ RInv Z x r A n c A2 N c2 B3 w g bd lv wx vs f1 t1 a1 h1)
    case atStart => exact ⟨bd0, none, 0, 0, [], (4+0), t, a, h, rfl, rfl, HI5.out⟩
    case round =>
      obtain ⟨bd, LA, ln, lc, vs, f1, t1, a1, h1, rfl, rfl, hinv⟩ := hrel
      have HI := Lib.hid hinv
      obtain ⟨d0, d1, d2, d3, d4, d5, f0⟩ := hinv.rd.cells
      have f02 := f0 4
      have hf1N := hinv.le
      have hst := hinv.st
      have hlv : ln = vs.length := by
        obtain ⟨_, _, hv0, -, -⟩ := hinv.its.row.form
        injection hv0
      subst hlv
      clear hinv HI5 f0
      rcases hst with ⟨hk⟩ | ⟨hk, hx1, hf1, ht1⟩ | ⟨y1, hs1, ht1, hk⟩
      · have Hk := Lib.hid hk
        clear hk
        go_wp2_with fail
        go_ret2
        rw [HN.out]
        exact ⟨vs, none, _, A2, c2, B3, f1, t1, a1, h1, Hk.out, HI.out.its.other (mod_set wr r 4 _) (fun k hk => ⟨_, 46, hk ▸ HI.out.rd.blk, by decide, by decide⟩), HI.out.md.trans (mod_set wr r 4 _) (fun _ _ e => .inl e), rfl, HI.out.rd.setTorn true, hf1N, HV2.out, fun y e => (by cases e)⟩
      · have Hk := Lib.hid hk
        have Hx1 := Lib.hid hx1
        have k4 : decide ((4 : Int) ≤ (f1 : Int)) = false := decide_eq_false (by omega)
        have Hz : Hid (f1 = 0 ∧ t1 = 0) := Lib.hid ⟨hf1, ht1⟩
        clear hk hx1 hf1 ht1
        go_wp2_with fail
        go_ret2
        rw [HN.out]
        exact ⟨vs, some x, _, A2, c2, B3, f1, t1, a1, h1, Hk.out, HI.out.its, HI.out.md, rfl, HI.out.rd, hf1N, HV2.out, fun y e => (by cases e; exact ⟨Hx1.out, by have := Hz.out; omega⟩)⟩
      · have Hk := Lib.hid hk
        have Hs1 := Lib.hid hs1
        have Ht1 : Hid (True ∧ t1 * 21 ≤ f1) := ⟨trivial, ht1⟩
        have hf4 := hs1.four
        have k4 : decide ((4 : Int) ≤ (f1 : Int)) = true := decide_eq_true (by omega)
        clear hk hs1 ht1
        cases h1 with
        | true =>
          go_wp2_with fail
          have K0 : ∀ wx, Ext wr wx → wx.cell? ⟨r, 0, none⟩ = some (.slice A2 N c2) := fun wx h => ((HI.out.rd.ext h).cells).1
          have K1 : ∀ wx, Ext wr wx → wx.cell? ⟨r, 1, none⟩ = some (.int .i64 (f1 : Int)) := fun wx h => ((HI.out.rd.ext h).cells).2.1
          clear d0 d1 d2 d3 d4 d5 f02 k4
          by_cases hgt : f1 < N
          · have hgt' : (f1 : Int) < (N : Int) := by omega
            have Hte : Hid (Runs Z x (vs.map (·.x)) none) := Lib.hid (by
              have := Hk.out [] none (.tear (by rw [Hs1.out.ends, if_neg (by rw [Hbl.out]; omega)]))
              rwa [List.append_nil] at this)
            clear hgt
            refine region_lin (fun wx => Ext wr wx) 100000 [(0, 3), (1, 3), (2, 3), (3, 0), (4, 3), (5, 3), (6, 3), (7, 3), (8, 0), (9, 3), (10, 3)] ?_ (by kernel_rfl) (by kernel_rfl) ?_ (fun _ _ _ _ _ h => h) ((Ext.refl _).drew) ?_
            rotate_left
            (simp only [planOps, List.mapM_cons, List.mapM_nil, List.getElem?_toArray, List.getElem?_cons_zero, List.getElem?_cons_succ, Option.map_some, Option.bind_eq_bind, Option.bind_some, Option.pure_def]; rfl)
            intro wd hwd hxd
            repeat (first | (refine lin_take ?_ (by rfl) (fun wx hx => ?_) ?_; rotate_left; go_simp; (with_reducible rfl); try simp only [Act.put, List.setIfInBounds_toArray, List.set_cons_zero, List.set_cons_succ]) | (refine lin_skip (by rfl) ?_; try simp only [Act.put, List.setIfInBounds_toArray, List.set_cons_zero, List.set_cons_succ]) | (refine lin_take3 ?_ (by rfl) (fun wx hx => ?_) ?_; rotate_left; go_simp; (with_reducible rfl); try simp only [Act.put, List.setIfInBounds_toArray, List.set_cons_zero, List.set_cons_succ]) | (refine lin_skip3 (by rfl) ?_; try simp only [Act.put, List.setIfInBounds_toArray, List.set_cons_zero, List.set_cons_succ]))
            refine lin_nil ?_
            clear K0 K1
            have HRd := Lib.hid (HI.out.rd.ext hwd)
            have hit := HI.out.its.ext hwd
            have hmd := HI.out.md.trans hwd (fun _ _ f => f.elim)
            have g4 := HRd.out.cells.2.2.2.2.1
            have gf := HRd.out.cells.2.2.2.2.2.2 4
            go_wp2_with fail
            go_ret2
            rw [HN.out]
            exact ⟨vs, none, _, A2, c2, B3, f1, t1, a1, true, Hte.out, hit.other (mod_set wd r 4 _) (fun k hk => ⟨_, 46, hk ▸ HRd.out.blk, by decide, by decide⟩), hmd.trans (mod_set wd r 4 _) (fun _ _ e => .inl e), rfl, HRd.out.setTorn true, hf1N, HV2.out, fun y e => (by cases e)⟩
          · have hgt' : ¬ ((f1 : Int) < (N : Int)) := by omega
            have Hte : Hid (Runs Z x (vs.map (·.x)) (some y1)) := Lib.hid (by
              have := Hk.out [] (some y1) (.stop (by rw [Hs1.out.ends, if_pos (by rw [Hbl.out]; omega)]))
              rwa [List.append_nil] at this)
            clear hgt
            refine region_lin (fun wx => Ext wr wx) 100000 [(0, 3), (1, 3), (2, 3), (3, 0), (4, 3), (5, 3), (6, 3), (7, 3), (8, 0), (9, 3), (10, 3)] ?_ (by kernel_rfl) (by kernel_rfl) ?_ (fun _ _ _ _ _ h => h) ((Ext.refl _).drew) ?_
            rotate_left
            (simp only [planOps, List.mapM_cons, List.mapM_nil, List.getElem?_toArray, List.getElem?_cons_zero, List.getElem?_cons_succ, Option.map_some, Option.bind_eq_bind, Option.bind_some, Option.pure_def]; rfl)
            intro wd hwd hxd
            repeat (first | (refine lin_take ?_ (by rfl) (fun wx hx => ?_) ?_; rotate_left; go_simp; (with_reducible rfl); try simp only [Act.put, List.setIfInBounds_toArray, List.set_cons_zero, List.set_cons_succ]) | (refine lin_skip (by rfl) ?_; try simp only [Act.put, List.setIfInBounds_toArray, List.set_cons_zero, List.set_cons_succ]) | (refine lin_take3 ?_ (by rfl) (fun wx hx => ?_) ?_; rotate_left; go_simp; (with_reducible rfl); try simp only [Act.put, List.setIfInBounds_toArray, List.set_cons_zero, List.set_cons_succ]) | (refine lin_skip3 (by rfl) ?_; try simp only [Act.put, List.setIfInBounds_toArray, List.set_cons_zero, List.set_cons_succ]))
            refine lin_nil ?_
            clear K0 K1
            have HRd := Lib.hid (HI.out.rd.ext hwd)
            have hit := HI.out.its.ext hwd
            have hmd := HI.out.md.trans hwd (fun _ _ f => f.elim)
            go_wp2_with fail
            go_ret2
            rw [HN.out]
            exact ⟨vs, some y1, _, A2, c2, B3, f1, t1, a1, true, Hte.out, hit, hmd, rfl, HRd.out, hf1N, HV2.out, fun y e => (by cases e; exact ⟨.inr Hs1.out, Ht1.out.2⟩)⟩
        | false =>
          go_wp2_with fail
          obtain ⟨F, hF⟩ : ∃ F, front Z t1 a1 (fnv Z fnv0 (B3.take f1)) (B3.drop f1) = F := ⟨_, rfl⟩
          have hp := rnext_any Z hZ r A2 N c2 B3 f1 t1 a1 false false wr HI.out.rd (by omega) hf1N (by omega) (by have := Ht1.out.2; omega) Hs1.out.first
          have hstep := Hs1.out.step
          rw [hF] at hp hstep
          clear d0 d1 d2 d3 d4 d5 f02 k4
          refine hp.mono ?_
          clear hp
          intro e w6 hp6
          cases F with
          | bad =>
            obtain ⟨rfl, hx6⟩ := hp6
            have Hte : Hid (Runs Z x (vs.map (·.x)) none) := Lib.hid (by
              have := Hk.out [] none (.tear hstep)
              rwa [List.append_nil] at this)
            have HX6 := Lib.hid hx6
            have HX7 : Hid (Ext wr (w6.alloc (.cells #[.int .i64 0, .bool false, .string ⟨#[]⟩, .int .i8 0, .slice none 0 0, .bool true] 70))) := Lib.hid (hx6.alloc _)
            have HR7 := Lib.hid (HI.out.rd.ext HX7.out)
            have g4 := HR7.out.cells.2.2.2.2.1
            have gf := HR7.out.cells.2.2.2.2.2.2 4
            clear hstep hF hx6
            unfold nextV
            go_wp2_with fail
            go_ret2
            rw [HN.out]
            exact ⟨vs, none, _, A2, c2, B3, f1, t1, a1, false, Hte.out, (HI.out.its.ext HX7.out).other (mod_set _ r 4 _) (fun k hk => ⟨_, 46, hk ▸ HR7.out.blk, by decide, by decide⟩), (HI.out.md.trans HX7.out (fun _ _ f => f.elim)).trans (mod_set _ r 4 _) (fun _ _ e => .inl e), rfl, HR7.out.setTorn true, hf1N, HV2.out, fun y e => (by cases e)⟩
          | wait =>
            obtain ⟨rfl, hx6⟩ := hp6
            have Hte : Hid (Runs Z x (vs.map (·.x)) (some y1)) := Lib.hid (by
              have := Hk.out [] (some y1) (.stop hstep)
              rwa [List.append_nil] at this)
            have HX7 : Hid (Ext wr (w6.alloc (.cells #[.int .i64 0, .bool false, .string ⟨#[]⟩, .int .i8 0, .slice none 0 0, .bool false] 70))) := Lib.hid (hx6.alloc _)
            clear hstep hF hx6
            unfold nextV
            go_wp2_with fail
            go_ret2
            rw [HN.out]
            exact ⟨vs, some y1, _, A2, c2, B3, f1, t1, a1, false, Hte.out, HI.out.its.ext HX7.out, HI.out.md.trans HX7.out (fun _ _ f => f.elim), rfl, HI.out.rd.ext HX7.out, hf1N, HV2.out, fun y e => (by cases e; exact ⟨.inr Hs1.out, Ht1.out.2⟩)⟩
          | fin =>
            obtain ⟨rfl, hx6⟩ := hp6
            obtain ⟨y2, hst2, hs2⟩ := hstep
            have Hst2 := Lib.hid hst2
            have Hs2 := Lib.hid hs2
            have hle2 := hs2.le
            rw [Hbl.out] at hle2
            have HX7 : Hid (Ext wr (w6.alloc (.cells #[.int .i64 13, .bool false, .string ⟨#[]⟩, .int .i8 0, .slice none 0 0, .bool false] 70))) := Lib.hid (hx6.alloc _)
            have HB7 : Hid ((w6.alloc (.cells #[.int .i64 13, .bool false, .string ⟨#[]⟩, .int .i8 0, .slice none 0 0, .bool false] 70)).heap[w6.heap.size]? = some (.cells #[.int .i64 13, .bool false, .string ⟨#[]⟩, .int .i8 0, .slice none 0 0, .bool false] 70 (0, 0))) := Lib.hid (heap_alloc_new w6 _)
            have hsz6 : wr.heap.size ≤ w6.heap.size := hx6.size
            have hrwr := HI.out.rd.lt
            clear hst2 hs2 hF hx6
            unfold nextV
            go_wp2_with fail
            obtain ⟨b8, hb8⟩ : ∃ b, w6.heap.size = b := ⟨_, rfl⟩
            obtain ⟨w7, hw7⟩ : ∃ W, w6.alloc (.cells #[.int .i64 13, .bool false, .string ⟨#[]⟩, .int .i8 0, .slice none 0 0, .bool false] 70) = W := ⟨_, rfl⟩
            have hb87 : b8 < w7.heap.size := by rw [← hw7, ← hb8]; simp
            rw [hw7] at HX7 HB7 ⊢
            rw [hb8] at HB7 hsz6 ⊢
            have hrb : b8 ≠ r := by omega
            obtain ⟨FN, hFN⟩ : ∃ x, f1 + 13 = x := ⟨_, rfl⟩
            have p1 : (f1 : Int) + 13 = (FN : Int) := by omega
            have p2 : IntKind.i64.wrap (FN : Int) = (FN : Int) := IntWalk.i64_in _ (by omega)
            have K1 : ∀ wx, Ext w7 wx → wx.cell? ⟨r, 1, none⟩ = some (.int .i64 (f1 : Int)) := fun wx h => ((HI.out.rd.ext (HX7.out.trans h)).cells).2.1
            have K8 : ∀ wx, Ext w7 wx → wx.cell? ⟨b8, 0, none⟩ = some (.int .i64 13) := fun wx h => (h.cell hb87).trans (cell_of_row _ _ 0 _ 70 (0, 0) HB7.out)
            clear hw7 hb8
            refine region_lin (fun wx => Ext w7 wx) 10 [(0, 3), (1, 3), (2, 3), (3, 3), (4, 0), (5, 3), (6, 0), (7, 3), (8, 3), (9, 3), (10, 2)] ?_ (by kernel_rfl) (by kernel_rfl) ?_ (fun _ _ _ _ _ h => h) ((Ext.refl _).drew) ?_
            rotate_left
            (simp only [planOps, List.mapM_cons, List.mapM_nil, List.getElem?_toArray, List.getElem?_cons_zero, List.getElem?_cons_succ, Option.map_some, Option.bind_eq_bind, Option.bind_some, Option.pure_def]; rfl)
            intro wd hwd hxd
            repeat (first | (refine lin_take ?_ (by rfl) (fun wx hx => ?_) ?_; rotate_left; go_simp; (with_reducible rfl); try simp only [Act.put, List.setIfInBounds_toArray, List.set_cons_zero, List.set_cons_succ]) | (refine lin_skip (by rfl) ?_; try simp only [Act.put, List.setIfInBounds_toArray, List.set_cons_zero, List.set_cons_succ]) | (refine lin_take3 ?_ (by rfl) (fun wx hx => ?_) ?_; rotate_left; go_simp; (with_reducible rfl); try simp only [Act.put, List.setIfInBounds_toArray, List.set_cons_zero, List.set_cons_succ]) | (refine lin_skip3 (by rfl) ?_; try simp only [Act.put, List.setIfInBounds_toArray, List.set_cons_zero, List.set_cons_succ]))
            have HRd := Lib.hid (HI.out.rd.ext (HX7.out.trans hwd))
            have q1 := HRd.out.cells.2.1
            have qf := HRd.out.cells.2.2.2.2.2.2 1
            have HBd : Hid (wd.heap[b8]? = some (.cells #[.int .i64 13, .bool false, .string ⟨#[]⟩, .int .i8 0, .slice none 0 0, .bool false] 70 (0, 0))) := Lib.hid ((hwd.block b8 hb87 (fun f => f)).trans HB7.out)
            have hXd := HX7.out.trans hwd
            clear K1 K8
            refine lin_last (by rfl) (fun KC hK => ?_)
            go_simp
            refine hK _ _ trivial ?_
            clear hK
            have HR8 := Lib.hid (HRd.out.setFrom FN)
            have hm8 : Mod (fun k => k = r) wd (wd.setCell ⟨r, 1, none⟩ (.int .i64 (FN : Int))) := mod_set wd r 1 _
            have HM8 : Hid (Mod (fun k => k = r) wr (wd.setCell ⟨r, 1, none⟩ (.int .i64 (FN : Int)))) := Lib.hid (Mod.trans (Mod.mono hXd (fun _ _ f => f.elim)) hm8 (fun _ _ e => e))
            have HB8 : Hid ((wd.setCell ⟨r, 1, none⟩ (.int .i64 (FN : Int))).heap[b8]? = some (.cells #[.int .i64 13, .bool false, .string ⟨#[]⟩, .int .i8 0, .slice none 0 0, .bool false] 70 (0, 0))) := Lib.hid ((hm8.block b8 (by have := hwd.size; omega) hrb).trans HBd.out)
            obtain ⟨w8, hw8⟩ : ∃ W, wd.setCell ⟨r, 1, none⟩ (.int .i64 (FN : Int)) = W := ⟨_, rfl⟩
            rw [hw8] at HR8 HM8 HB8 ⊢
            have c81 := cell_of_row _ _ 1 _ 70 (0, 0) HB8.out
            simp only [List.getElem?_toArray, List.getElem?_cons_zero, List.getElem?_cons_succ] at c81
            have c85 := HR8.out.cells.2.2.2.2.2.1
            have f85 := HR8.out.cells.2.2.2.2.2.2 5
            clear hw8 hm8 hXd hwd hxd q1 qf HBd HRd HB8 p1 p2
            go_wp2_with fail
            have HI9 : Hid (RInv Z x r A n c A2 N c2 B3 w (gk - 1) false (.slice LA vs.length lc) (w8.setCell ⟨r, 5, none⟩ (.bool true)) vs FN t1 a1 true) := Lib.hid
              { its := HI.out.its.other (HM8.out.trans (mod_set w8 r 5 _) (fun _ _ e => e)) (fun k hk => ⟨_, 46, hk ▸ HI.out.rd.blk, by decide, by decide⟩)
                rd := HR8.out.setWhole true
                fuel := by have := HI.out.fuel; rw [Hbl.out] at this ⊢; omega
                cap := by have := HI.out.cap; omega
                le := by omega
                md := HI.out.md.trans (HM8.out.trans (mod_set w8 r 5 _) (fun _ _ e => e)) (fun _ _ e => .inl e)
                st := .sim y2 (hFN ▸ Hs2.out) (by have := Ht1.out.2; omega) (fun l' q k => Hk.out l' q (.step (o := none) Hst2.out k)) }
            have hgk : 0 < gk := by have := HI.out.fuel; rw [Hbl.out] at this; omega
            go_roundg (gk - 1)
            case measure => omega
            case rel => exact ⟨false, LA, _, lc, vs, FN, t1, a1, true, rfl, rfl, HI9.out⟩
          | item nn it =>
            obtain ⟨D, dc, rfl, hx6, ho6, hn6⟩ := hp6
            obtain ⟨y2, hst2, hs2⟩ := hstep
            have hlen := front_len Z hF
            rw [List.length_drop, Hbl.out] at hlen
            have b0 : ((nn : Int) == 0) = false := beq_eq_false_iff_ne.2 (by omega)
            have Hst2 := Lib.hid hst2
            have Hs2 := Lib.hid hs2
            have HX7 : Hid (Ext wr (w6.alloc (.cells #[.int .i64 (nn : Int), .bool true, .string (mkB it.path), .int .i8 it.kind, .slice D it.data.length dc, .bool false] 70))) := Lib.hid (hx6.alloc _)
            have HB7 : Hid ((w6.alloc (.cells #[.int .i64 (nn : Int), .bool true, .string (mkB it.path), .int .i8 it.kind, .slice D it.data.length dc, .bool false] 70)).heap[w6.heap.size]? = some (.cells #[.int .i64 (nn : Int), .bool true, .string (mkB it.path), .int .i8 it.kind, .slice D it.data.length dc, .bool false] 70 (0, 0))) := Lib.hid (heap_alloc_new w6 _)
            have HO7 : Hid (Own (w6.alloc (.cells #[.int .i64 (nn : Int), .bool true, .string (mkB it.path), .int .i8 it.kind, .slice D it.data.length dc, .bool false] 70)) 5 1 (.slice D it.data.length dc) it.data.length (u8v it.data)) := Lib.hid (ho6.ext ((Ext.refl _).alloc _))
            have Hn6 : Hid (∀ k, (Value.slice D it.data.length dc).ownBlock = some k → wr.heap.size ≤ k) := Lib.hid hn6
            have hsz6 : wr.heap.size ≤ w6.heap.size := hx6.size
            have hrwr := HI.out.rd.lt
            clear hst2 hs2 hF hx6 ho6 hn6
            unfold nextV
            go_wp2_with fail
            obtain ⟨b8, hb8⟩ : ∃ b, w6.heap.size = b := ⟨_, rfl⟩
            obtain ⟨w7, hw7⟩ : ∃ W, w6.alloc (.cells #[.int .i64 (nn : Int), .bool true, .string (mkB it.path), .int .i8 it.kind, .slice D it.data.length dc, .bool false] 70) = W := ⟨_, rfl⟩
            have hb87 : b8 < w7.heap.size := by rw [← hw7, ← hb8]; simp
            rw [hw7] at HX7 HB7 HO7 ⊢
            rw [hb8] at HB7 hsz6 ⊢
            have hrb : b8 ≠ r := by omega
            obtain ⟨FN, hFN⟩ : ∃ x, f1 + nn = x := ⟨_, rfl⟩
            have p1 : (f1 : Int) + (nn : Int) = (FN : Int) := by omega
            have p2 : IntKind.i64.wrap (FN : Int) = (FN : Int) := IntWalk.i64_in _ (by omega)
            have K1 : ∀ wx, Ext w7 wx → wx.cell? ⟨r, 1, none⟩ = some (.int .i64 (f1 : Int)) := fun wx h => ((HI.out.rd.ext (HX7.out.trans h)).cells).2.1
            have K8 : ∀ wx, Ext w7 wx → wx.cell? ⟨b8, 0, none⟩ = some (.int .i64 (nn : Int)) := fun wx h => (h.cell hb87).trans (cell_of_row _ _ 0 _ 70 (0, 0) HB7.out)
            clear hw7 hb8
            refine region_lin (fun wx => Ext w7 wx) 10 [(0, 3), (1, 3), (2, 3), (3, 3), (4, 0), (5, 3), (6, 0), (7, 3), (8, 3), (9, 3), (10, 2)] ?_ (by kernel_rfl) (by kernel_rfl) ?_ (fun _ _ _ _ _ h => h) ((Ext.refl _).drew) ?_
            rotate_left
            (simp only [planOps, List.mapM_cons, List.mapM_nil, List.getElem?_toArray, List.getElem?_cons_zero, List.getElem?_cons_succ, Option.map_some, Option.bind_eq_bind, Option.bind_some, Option.pure_def]; rfl)
            intro wd hwd hxd
            repeat (first | (refine lin_take ?_ (by rfl) (fun wx hx => ?_) ?_; rotate_left; go_simp; (with_reducible rfl); try simp only [Act.put, List.setIfInBounds_toArray, List.set_cons_zero, List.set_cons_succ]) | (refine lin_skip (by rfl) ?_; try simp only [Act.put, List.setIfInBounds_toArray, List.set_cons_zero, List.set_cons_succ]) | (refine lin_take3 ?_ (by rfl) (fun wx hx => ?_) ?_; rotate_left; go_simp; (with_reducible rfl); try simp only [Act.put, List.setIfInBounds_toArray, List.set_cons_zero, List.set_cons_succ]) | (refine lin_skip3 (by rfl) ?_; try simp only [Act.put, List.setIfInBounds_toArray, List.set_cons_zero, List.set_cons_succ]))
            have HRd := Lib.hid (HI.out.rd.ext (HX7.out.trans hwd))
            have q1 := HRd.out.cells.2.1
            have qf := HRd.out.cells.2.2.2.2.2.2 1
            have HBd : Hid (wd.heap[b8]? = some (.cells #[.int .i64 (nn : Int), .bool true, .string (mkB it.path), .int .i8 it.kind, .slice D it.data.length dc, .bool false] 70 (0, 0))) := Lib.hid ((hwd.block b8 hb87 (fun f => f)).trans HB7.out)
            have hXd := HX7.out.trans hwd
            clear K1 K8
            refine lin_last (by rfl) (fun KC hK => ?_)
            go_simp
            refine hK _ _ trivial ?_
            clear hK
            have HR8 := Lib.hid (HRd.out.setFrom FN)
            have hm8 : Mod (fun k => k = r) wd (wd.setCell ⟨r, 1, none⟩ (.int .i64 (FN : Int))) := mod_set wd r 1 _
            have HM8 : Hid (Mod (fun k => k = r) wr (wd.setCell ⟨r, 1, none⟩ (.int .i64 (FN : Int)))) := Lib.hid (Mod.trans (Mod.mono hXd (fun _ _ f => f.elim)) hm8 (fun _ _ e => e))
            have HB8 : Hid ((wd.setCell ⟨r, 1, none⟩ (.int .i64 (FN : Int))).heap[b8]? = some (.cells #[.int .i64 (nn : Int), .bool true, .string (mkB it.path), .int .i8 it.kind, .slice D it.data.length dc, .bool false] 70 (0, 0))) := Lib.hid ((hm8.block b8 (by have := hwd.size; omega) hrb).trans HBd.out)
            have HO8 : Hid (Own (wd.setCell ⟨r, 1, none⟩ (.int .i64 (FN : Int))) 5 1 (.slice D it.data.length dc) it.data.length (u8v it.data)) := Lib.hid ((HO7.out.ext hwd).mod hm8 (fun k hk e => by have := Hn6.out k hk; omega))
            obtain ⟨w8, hw8⟩ : ∃ W, wd.setCell ⟨r, 1, none⟩ (.int .i64 (FN : Int)) = W := ⟨_, rfl⟩
            rw [hw8] at HR8 HM8 HB8 HO8 ⊢
            have c8 := fun i => cell_of_row _ _ i _ 70 (0, 0) HB8.out
            have c81 := c8 1
            have c82 := c8 2
            have c83 := c8 3
            have c84 := c8 4
            simp only [List.getElem?_toArray, List.getElem?_cons_zero, List.getElem?_cons_succ] at c81 c82 c83 c84
            clear hw8 hm8 hXd hwd hxd q1 qf HBd HRd p1 p2 c8 HO7 HB7
            obtain ⟨i50, hi50, hz50, hsz50, hby50⟩ := info_parts Tryd.info50
            have hcv : vs.length ≤ 1000000 := by have := HI.out.cap; omega
            have HT8 : Hid (ItMine w w8 (.slice LA vs.length lc) vs) := Lib.hid (HI.out.its.other HM8.out (fun k hk => ⟨_, 46, hk ▸ HI.out.rd.blk, by decide, by decide⟩))
            have hnc : ∀ (j : Nat) u, (itv [⟨it, D, dc⟩])[j]? = some u → (w8.alloc (.cells #[.string (mkB it.path), .int .i8 it.kind, .slice D it.data.length dc] 50)).cell? ((⟨w8.heap.size, 0, none⟩ : Addr).add j) = some u := fun j u hu => new_cells _ [.string (mkB it.path), .int .i8 it.kind, .slice D it.data.length dc] 50 j u hu
            have Hnc := Lib.hid hnc
            clear hnc
            go_wp2_with (at_builtin; refine wpList_append_own_any _ rfl (.tmp 88) (.tmp 91) 22 rfl 50 i50 _ 3 48 Tryd.underlying22 hi50 hz50 hsz50 hby50 rfl (by decide) (.slice LA vs.length lc) vs.length (itv vs) rfl (HT8.out.row.ext ((Ext.refl _).alloc _)) (some ⟨w8.heap.size, 0, none⟩) 1 1 (itv [⟨it, D, dc⟩]) rfl rfl (fun _ => ⟨_, rfl, Hnc.out⟩) (itv_one _) (by unfold maxLen; omega) (by omega) ?_)
            intro v' w9 ho hg hv'
            have hx8 : Ext w8 (w8.alloc (.cells #[.string (mkB it.path), .int .i8 it.kind, .slice D it.data.length dc] 50)) := (Ext.refl _).alloc _
            have hsz8 : wr.heap.size ≤ w8.heap.size := HM8.out.size
            have hpu := ItMine.snoc (i := ⟨it, D, dc⟩) (HT8.out.ext hx8) (HO8.out.ext hx8) (fun k hk => by have := Hn6.out k hk; have := HI.out.md.size; omega) (by have := HI.out.md.size; have := hx8.size; omega) ho hg (by simpa using hv')
            have hm9 : Mod (fun k => (Value.slice LA vs.length lc).ownBlock = some k) w8 w9 := Mod.trans (Mod.mono hx8 (fun _ _ f => f.elim)) hpu.2 (fun _ _ e => e)
            have HI9 := Lib.hid hpu.1
            have HR9 := Lib.hid ((HR8.out.ext hx8).row (HT8.out.row.ext hx8) hpu.2)
            have HB9 : Hid (w9.heap[b8]? = some (.cells #[.int .i64 (nn : Int), .bool true, .string (mkB it.path), .int .i8 it.kind, .slice D it.data.length dc, .bool false] 70 (0, 0))) := Lib.hid ((hm9.block b8 ((Array.getElem?_eq_some_iff.1 HB8.out).1) (fun h => by
              obtain ⟨cur, h3⟩ := HT8.out.row.ty h
              rw [HB8.out] at h3; injection h3 with h3; injection h3 with _ h3; exact absurd h3 (by decide))).trans HB8.out)
            have HM9 : Hid (Mod (fun k => k = r ∨ (Value.slice A n c).ownBlock = some k) w w9) := Lib.hid ((HI.out.md.trans HM8.out (fun _ _ e => .inl e)).trans hm9 (fun k hk h => by have := HT8.out.new k h; omega))
            obtain ⟨LA9, lc9, rfl, -, -⟩ := ho.form
            obtain ⟨TN, hTN⟩ : ∃ x, t1 + 1 = x := ⟨_, rfl⟩
            have hTl := Ht1.out.2
            have p3 : (t1 : Int) + 1 = (TN : Int) := by omega
            have p4 : IntKind.i64.wrap (TN : Int) = (TN : Int) := IntWalk.i64_in _ (by omega)
            have c92 := HR9.out.cells.2.2.1
            have f92 := HR9.out.cells.2.2.2.2.2.2 2
            have HR10 := Lib.hid (HR9.out.setTold TN)
            have hm10 : Mod (fun k => k = r) w9 (w9.setCell ⟨r, 2, none⟩ (.int .i64 (TN : Int))) := mod_set w9 r 2 _
            have hB10 := (hm10.block b8 ((Array.getElem?_eq_some_iff.1 HB9.out).1) hrb).trans HB9.out
            have c102 := cell_of_row _ _ 2 _ 70 (0, 0) hB10
            have c103 := HR10.out.cells.2.2.2.1
            have f103 := HR10.out.cells.2.2.2.2.2.2 3
            have HM11 : Hid (Mod (fun k => k = r) w9 ((w9.setCell ⟨r, 2, none⟩ (.int .i64 (TN : Int))).setCell ⟨r, 3, none⟩ (.string (mkB it.path)))) := Lib.hid (hm10.trans (mod_set _ r 3 _) (fun _ _ e => e))
            simp only [List.getElem?_toArray, List.getElem?_cons_zero, List.getElem?_cons_succ] at c102
            clear ho hg hv' hx8 hpu hm9 hm10 hB10 c81 c82 c83 c84 hTl
            go_wp2_with fail
            have HI11 : Hid (RInv Z x r A n c A2 N c2 B3 w (gk - 1) false (.slice LA9 (vs.length + 1) lc9) ((w9.setCell ⟨r, 2, none⟩ (.int .i64 (TN : Int))).setCell ⟨r, 3, none⟩ (.string (mkB it.path))) (vs ++ [⟨it, D, dc⟩]) FN TN it.path false) := Lib.hid
              { its := HI9.out.other HM11.out (fun k hk => ⟨_, 46, hk ▸ HR9.out.blk, by decide, by decide⟩)
                rd := HR10.out.setLast it.path
                fuel := by have := HI.out.fuel; rw [Hbl.out] at this ⊢; omega
                cap := by have := HI.out.cap; rw [List.length_append, List.length_singleton]; omega
                le := by omega
                md := HM9.out.trans HM11.out (fun _ _ e => .inl e)
                st := .sim y2 (hFN ▸ hTN ▸ Hs2.out) (by have := Ht1.out.2; omega) (fun l' q k => by have := Hk.out (it :: l') q (.step (o := some it) Hst2.out k); simpa using this) }
            have hgk : 0 < gk := by have := HI.out.fuel; rw [Hbl.out] at this; omega
            go_roundg (gk - 1)
            case measure => omega
            case rel => exact ⟨false, LA9, _, lc9, vs ++ [⟨it, D, dc⟩], FN, TN, it.path, false, rfl, rfl, HI11.out⟩
  · have HS5 : Hid (RState Z x B3 f t a h [] bd0) := Lib.hid (HS.out.1 (by rw [Hbl.out]; exact h04))
    have HR5 := HR4
    have HM5 := HM4
    by_cases hf0 : f = 0
    · have b0 : ((f : Int) == 0) = true := by rw [hf0]; rfl
      have k4 : decide ((4 : Int) ≤ (N : Int)) = false := decide_eq_false (by omega)
      clear h04 hf0
      go_wp2_with fail
      clear b0 k4 d0 d1 f01
      have HI5 : Hid (RInv Z x r A n c A2 N c2 B3 w N bd0 (.slice none 0 0) w4 [] f t a h) := Lib.hid
        { its := ItMine.nil _ _, rd := HR5.out, fuel := by rw [Hbl.out]; omega, cap := by simp, le := by omega, md := HM5.out, st := HS5.out }
      clear HR5 HM5 HS5
      go_loopg [6, 7] N (fun g bv lv wx => ∃ (bd : Bool) (LA : Option Addr) (ln lc : Nat) (vs : List IV) (f1 t1 : Nat) (a1 : Bs) (h1 : Bool), bv = .bool bd ∧ lv = .slice LA ln lc ∧ RInv Z x r A n c A2 N c2 B3 w g bd lv wx vs f1 t1 a1 h1)
      case atStart => exact ⟨bd0, none, 0, 0, [], f, t, a, h, rfl, rfl, HI5.out⟩
      case round =>
        obtain ⟨bd, LA, ln, lc, vs, f1, t1, a1, h1, rfl, rfl, hinv⟩ := hrel
        have HI := Lib.hid hinv
        obtain ⟨d0, d1, d2, d3, d4, d5, f0⟩ := hinv.rd.cells
        have f02 := f0 4
        have hf1N := hinv.le
        have hst := hinv.st
        have hlv : ln = vs.length := by
          obtain ⟨_, _, hv0, -, -⟩ := hinv.its.row.form
          injection hv0
        subst hlv
        clear hinv HI5 f0
        rcases hst with ⟨hk⟩ | ⟨hk, hx1, hf1, ht1⟩ | ⟨y1, hs1, ht1, hk⟩
        · have Hk := Lib.hid hk
          clear hk
          go_wp2_with fail
          go_ret2
          rw [HN.out]
          exact ⟨vs, none, _, A2, c2, B3, f1, t1, a1, h1, Hk.out, HI.out.its.other (mod_set wr r 4 _) (fun k hk => ⟨_, 46, hk ▸ HI.out.rd.blk, by decide, by decide⟩), HI.out.md.trans (mod_set wr r 4 _) (fun _ _ e => .inl e), rfl, HI.out.rd.setTorn true, hf1N, HV2.out, fun y e => (by cases e)⟩
        · have Hk := Lib.hid hk
          have Hx1 := Lib.hid hx1
          have k4 : decide ((4 : Int) ≤ (f1 : Int)) = false := decide_eq_false (by omega)
          have Hz : Hid (f1 = 0 ∧ t1 = 0) := Lib.hid ⟨hf1, ht1⟩
          clear hk hx1 hf1 ht1
          go_wp2_with fail
          go_ret2
          rw [HN.out]
          exact ⟨vs, some x, _, A2, c2, B3, f1, t1, a1, h1, Hk.out, HI.out.its, HI.out.md, rfl, HI.out.rd, hf1N, HV2.out, fun y e => (by cases e; exact ⟨Hx1.out, by have := Hz.out; omega⟩)⟩
        · have Hk := Lib.hid hk
          have Hs1 := Lib.hid hs1
          have Ht1 : Hid (True ∧ t1 * 21 ≤ f1) := ⟨trivial, ht1⟩
          have hf4 := hs1.four
          have k4 : decide ((4 : Int) ≤ (f1 : Int)) = true := decide_eq_true (by omega)
          clear hk hs1 ht1
          cases h1 with
          | true =>
            go_wp2_with fail
            have K0 : ∀ wx, Ext wr wx → wx.cell? ⟨r, 0, none⟩ = some (.slice A2 N c2) := fun wx h => ((HI.out.rd.ext h).cells).1
            have K1 : ∀ wx, Ext wr wx → wx.cell? ⟨r, 1, none⟩ = some (.int .i64 (f1 : Int)) := fun wx h => ((HI.out.rd.ext h).cells).2.1
            clear d0 d1 d2 d3 d4 d5 f02 k4
            by_cases hgt : f1 < N
            · have hgt' : (f1 : Int) < (N : Int) := by omega
              have Hte : Hid (Runs Z x (vs.map (·.x)) none) := Lib.hid (by
                have := Hk.out [] none (.tear (by rw [Hs1.out.ends, if_neg (by rw [Hbl.out]; omega)]))
                rwa [List.append_nil] at this)
              clear hgt
              refine region_lin (fun wx => Ext wr wx) 100000 [(0, 3), (1, 3), (2, 3), (3, 0), (4, 3), (5, 3), (6, 3), (7, 3), (8, 0), (9, 3), (10, 3)] ?_ (by kernel_rfl) (by kernel_rfl) ?_ (fun _ _ _ _ _ h => h) ((Ext.refl _).drew) ?_
              rotate_left
              (simp only [planOps, List.mapM_cons, List.mapM_nil, List.getElem?_toArray, List.getElem?_cons_zero, List.getElem?_cons_succ, Option.map_some, Option.bind_eq_bind, Option.bind_some, Option.pure_def]; rfl)
              intro wd hwd hxd
              repeat (first | (refine lin_take ?_ (by rfl) (fun wx hx => ?_) ?_; rotate_left; go_simp; (with_reducible rfl); try simp only [Act.put, List.setIfInBounds_toArray, List.set_cons_zero, List.set_cons_succ]) | (refine lin_skip (by rfl) ?_; try simp only [Act.put, List.setIfInBounds_toArray, List.set_cons_zero, List.set_cons_succ]) | (refine lin_take3 ?_ (by rfl) (fun wx hx => ?_) ?_; rotate_left; go_simp; (with_reducible rfl); try simp only [Act.put, List.setIfInBounds_toArray, List.set_cons_zero, List.set_cons_succ]) | (refine lin_skip3 (by rfl) ?_; try simp only [Act.put, List.setIfInBounds_toArray, List.set_cons_zero, List.set_cons_succ]))
              refine lin_nil ?_
              clear K0 K1
              have HRd := Lib.hid (HI.out.rd.ext hwd)
              have hit := HI.out.its.ext hwd
              have hmd := HI.out.md.trans hwd (fun _ _ f => f.elim)
              have g4 := HRd.out.cells.2.2.2.2.1
              have gf := HRd.out.cells.2.2.2.2.2.2 4
              go_wp2_with fail
              go_ret2
              rw [HN.out]
              exact ⟨vs, none, _, A2, c2, B3, f1, t1, a1, true, Hte.out, hit.other (mod_set wd r 4 _) (fun k hk => ⟨_, 46, hk ▸ HRd.out.blk, by decide, by decide⟩), hmd.trans (mod_set wd r 4 _) (fun _ _ e => .inl e), rfl, HRd.out.setTorn true, hf1N, HV2.out, fun y e => (by cases e)⟩
            · have hgt' : ¬ ((f1 : Int) < (N : Int)) := by omega
              have Hte : Hid (Runs Z x (vs.map (·.x)) (some y1)) := Lib.hid (by
                have := Hk.out [] (some y1) (.stop (by rw [Hs1.out.ends, if_pos (by rw [Hbl.out]; omega)]))
                rwa [List.append_nil] at this)
              clear hgt
              refine region_lin (fun wx => Ext wr wx) 100000 [(0, 3), (1, 3), (2, 3), (3, 0), (4, 3), (5, 3), (6, 3), (7, 3), (8, 0), (9, 3), (10, 3)] ?_ (by kernel_rfl) (by kernel_rfl) ?_ (fun _ _ _ _ _ h => h) ((Ext.refl _).drew) ?_
              rotate_left
              (simp only [planOps, List.mapM_cons, List.mapM_nil, List.getElem?_toArray, List.getElem?_cons_zero, List.getElem?_cons_succ, Option.map_some, Option.bind_eq_bind, Option.bind_some, Option.pure_def]; rfl)
              intro wd hwd hxd
              repeat (first | (refine lin_take ?_ (by rfl) (fun wx hx => ?_) ?_; rotate_left; go_simp; (with_reducible rfl); try simp only [Act.put, List.setIfInBounds_toArray, List.set_cons_zero, List.set_cons_succ]) | (refine lin_skip (by rfl) ?_; try simp only [Act.put, List.setIfInBounds_toArray, List.set_cons_zero, List.set_cons_succ]) | (refine lin_take3 ?_ (by rfl) (fun wx hx => ?_) ?_; rotate_left; go_simp; (with_reducible rfl); try simp only [Act.put, List.setIfInBounds_toArray, List.set_cons_zero, List.set_cons_succ]) | (refine lin_skip3 (by rfl) ?_; try simp only [Act.put, List.setIfInBounds_toArray, List.set_cons_zero, List.set_cons_succ]))
              refine lin_nil ?_
              clear K0 K1
              have HRd := Lib.hid (HI.out.rd.ext hwd)
              have hit := HI.out.its.ext hwd
              have hmd := HI.out.md.trans hwd (fun _ _ f => f.elim)
              go_wp2_with fail
              go_ret2
              rw [HN.out]
              exact ⟨vs, some y1, _, A2, c2, B3, f1, t1, a1, true, Hte.out, hit, hmd, rfl, HRd.out, hf1N, HV2.out, fun y e => (by cases e; exact ⟨.inr Hs1.out, Ht1.out.2⟩)⟩
          | false =>
            go_wp2_with fail
            obtain ⟨F, hF⟩ : ∃ F, front Z t1 a1 (fnv Z fnv0 (B3.take f1)) (B3.drop f1) = F := ⟨_, rfl⟩
            have hp := rnext_any Z hZ r A2 N c2 B3 f1 t1 a1 false false wr HI.out.rd (by omega) hf1N (by omega) (by have := Ht1.out.2; omega) Hs1.out.first
            have hstep := Hs1.out.step
            rw [hF] at hp hstep
            clear d0 d1 d2 d3 d4 d5 f02 k4
            refine hp.mono ?_
            clear hp
            intro e w6 hp6
            cases F with
            | bad =>
              obtain ⟨rfl, hx6⟩ := hp6
              have Hte : Hid (Runs Z x (vs.map (·.x)) none) := Lib.hid (by
                have := Hk.out [] none (.tear hstep)
                rwa [List.append_nil] at this)
              have HX6 := Lib.hid hx6
              have HX7 : Hid (Ext wr (w6.alloc (.cells #[.int .i64 0, .bool false, .string ⟨#[]⟩, .int .i8 0, .slice none 0 0, .bool true] 70))) := Lib.hid (hx6.alloc _)
              have HR7 := Lib.hid (HI.out.rd.ext HX7.out)
              have g4 := HR7.out.cells.2.2.2.2.1
              have gf := HR7.out.cells.2.2.2.2.2.2 4
              clear hstep hF hx6
              unfold nextV
              go_wp2_with fail
              go_ret2
              rw [HN.out]
              exact ⟨vs, none, _, A2, c2, B3, f1, t1, a1, false, Hte.out, (HI.out.its.ext HX7.out).other (mod_set _ r 4 _) (fun k hk => ⟨_, 46, hk ▸ HR7.out.blk, by decide, by decide⟩), (HI.out.md.trans HX7.out (fun _ _ f => f.elim)).trans (mod_set _ r 4 _) (fun _ _ e => .inl e), rfl, HR7.out.setTorn true, hf1N, HV2.out, fun y e => (by cases e)⟩
            | wait =>
              obtain ⟨rfl, hx6⟩ := hp6
              have Hte : Hid (Runs Z x (vs.map (·.x)) (some y1)) := Lib.hid (by
                have := Hk.out [] (some y1) (.stop hstep)
                rwa [List.append_nil] at this)
              have HX7 : Hid (Ext wr (w6.alloc (.cells #[.int .i64 0, .bool false, .string ⟨#[]⟩, .int .i8 0, .slice none 0 0, .bool false] 70))) := Lib.hid (hx6.alloc _)
              clear hstep hF hx6
              unfold nextV
              go_wp2_with fail
              go_ret2
              rw [HN.out]
              exact ⟨vs, some y1, _, A2, c2, B3, f1, t1, a1, false, Hte.out, HI.out.its.ext HX7.out, HI.out.md.trans HX7.out (fun _ _ f => f.elim), rfl, HI.out.rd.ext HX7.out, hf1N, HV2.out, fun y e => (by cases e; exact ⟨.inr Hs1.out, Ht1.out.2⟩)⟩
            | fin =>
              obtain ⟨rfl, hx6⟩ := hp6
              obtain ⟨y2, hst2, hs2⟩ := hstep
              have Hst2 := Lib.hid hst2
              have Hs2 := Lib.hid hs2
              have hle2 := hs2.le
              rw [Hbl.out] at hle2
              have HX7 : Hid (Ext wr (w6.alloc (.cells #[.int .i64 13, .bool false, .string ⟨#[]⟩, .int .i8 0, .slice none 0 0, .bool false] 70))) := Lib.hid (hx6.alloc _)
              have HB7 : Hid ((w6.alloc (.cells #[.int .i64 13, .bool false, .string ⟨#[]⟩, .int .i8 0, .slice none 0 0, .bool false] 70)).heap[w6.heap.size]? = some (.cells #[.int .i64 13, .bool false, .string ⟨#[]⟩, .int .i8 0, .slice none 0 0, .bool false] 70 (0, 0))) := Lib.hid (heap_alloc_new w6 _)
              have hsz6 : wr.heap.size ≤ w6.heap.size := hx6.size
              have hrwr := HI.out.rd.lt
              clear hst2 hs2 hF hx6
              unfold nextV
              go_wp2_with fail
              obtain ⟨b8, hb8⟩ : ∃ b, w6.heap.size = b := ⟨_, rfl⟩
              obtain ⟨w7, hw7⟩ : ∃ W, w6.alloc (.cells #[.int .i64 13, .bool false, .string ⟨#[]⟩, .int .i8 0, .slice none 0 0, .bool false] 70) = W := ⟨_, rfl⟩
              have hb87 : b8 < w7.heap.size := by rw [← hw7, ← hb8]; simp
              rw [hw7] at HX7 HB7 ⊢
              rw [hb8] at HB7 hsz6 ⊢
              have hrb : b8 ≠ r := by omega
              obtain ⟨FN, hFN⟩ : ∃ x, f1 + 13 = x := ⟨_, rfl⟩
              have p1 : (f1 : Int) + 13 = (FN : Int) := by omega
              have p2 : IntKind.i64.wrap (FN : Int) = (FN : Int) := IntWalk.i64_in _ (by omega)
              have K1 : ∀ wx, Ext w7 wx → wx.cell? ⟨r, 1, none⟩ = some (.int .i64 (f1 : Int)) := fun wx h => ((HI.out.rd.ext (HX7.out.trans h)).cells).2.1
              have K8 : ∀ wx, Ext w7 wx → wx.cell? ⟨b8, 0, none⟩ = some (.int .i64 13) := fun wx h => (h.cell hb87).trans (cell_of_row _ _ 0 _ 70 (0, 0) HB7.out)
              clear hw7 hb8
              refine region_lin (fun wx => Ext w7 wx) 10 [(0, 3), (1, 3), (2, 3), (3, 3), (4, 0), (5, 3), (6, 0), (7, 3), (8, 3), (9, 3), (10, 2)] ?_ (by kernel_rfl) (by kernel_rfl) ?_ (fun _ _ _ _ _ h => h) ((Ext.refl _).drew) ?_
              rotate_left
              (simp only [planOps, List.mapM_cons, List.mapM_nil, List.getElem?_toArray, List.getElem?_cons_zero, List.getElem?_cons_succ, Option.map_some, Option.bind_eq_bind, Option.bind_some, Option.pure_def]; rfl)
              intro wd hwd hxd
              repeat (first | (refine lin_take ?_ (by rfl) (fun wx hx => ?_) ?_; rotate_left; go_simp; (with_reducible rfl); try simp only [Act.put, List.setIfInBounds_toArray, List.set_cons_zero, List.set_cons_succ]) | (refine lin_skip (by rfl) ?_; try simp only [Act.put, List.setIfInBounds_toArray, List.set_cons_zero, List.set_cons_succ]) | (refine lin_take3 ?_ (by rfl) (fun wx hx => ?_) ?_; rotate_left; go_simp; (with_reducible rfl); try simp only [Act.put, List.setIfInBounds_toArray, List.set_cons_zero, List.set_cons_succ]) | (refine lin_skip3 (by rfl) ?_; try simp only [Act.put, List.setIfInBounds_toArray, List.set_cons_zero, List.set_cons_succ]))
              have HRd := Lib.hid (HI.out.rd.ext (HX7.out.trans hwd))
              have q1 := HRd.out.cells.2.1
              have qf := HRd.out.cells.2.2.2.2.2.2 1
              have HBd : Hid (wd.heap[b8]? = some (.cells #[.int .i64 13, .bool false, .string ⟨#[]⟩, .int .i8 0, .slice none 0 0, .bool false] 70 (0, 0))) := Lib.hid ((hwd.block b8 hb87 (fun f => f)).trans HB7.out)
              have hXd := HX7.out.trans hwd
              clear K1 K8
              refine lin_last (by rfl) (fun KC hK => ?_)
              go_simp
              refine hK _ _ trivial ?_
              clear hK
              have HR8 := Lib.hid (HRd.out.setFrom FN)
              have hm8 : Mod (fun k => k = r) wd (wd.setCell ⟨r, 1, none⟩ (.int .i64 (FN : Int))) := mod_set wd r 1 _
              have HM8 : Hid (Mod (fun k => k = r) wr (wd.setCell ⟨r, 1, none⟩ (.int .i64 (FN : Int)))) := Lib.hid (Mod.trans (Mod.mono hXd (fun _ _ f => f.elim)) hm8 (fun _ _ e => e))
              have HB8 : Hid ((wd.setCell ⟨r, 1, none⟩ (.int .i64 (FN : Int))).heap[b8]? = some (.cells #[.int .i64 13, .bool false, .string ⟨#[]⟩, .int .i8 0, .slice none 0 0, .bool false] 70 (0, 0))) := Lib.hid ((hm8.block b8 (by have := hwd.size; omega) hrb).trans HBd.out)
              obtain ⟨w8, hw8⟩ : ∃ W, wd.setCell ⟨r, 1, none⟩ (.int .i64 (FN : Int)) = W := ⟨_, rfl⟩
              rw [hw8] at HR8 HM8 HB8 ⊢
              have c81 := cell_of_row _ _ 1 _ 70 (0, 0) HB8.out
              simp only [List.getElem?_toArray, List.getElem?_cons_zero, List.getElem?_cons_succ] at c81
              have c85 := HR8.out.cells.2.2.2.2.2.1
              have f85 := HR8.out.cells.2.2.2.2.2.2 5
              clear hw8 hm8 hXd hwd hxd q1 qf HBd HRd HB8 p1 p2
              go_wp2_with fail
              have HI9 : Hid (RInv Z x r A n c A2 N c2 B3 w (gk - 1) false (.slice LA vs.length lc) (w8.setCell ⟨r, 5, none⟩ (.bool true)) vs FN t1 a1 true) := Lib.hid
                { its := HI.out.its.other (HM8.out.trans (mod_set w8 r 5 _) (fun _ _ e => e)) (fun k hk => ⟨_, 46, hk ▸ HI.out.rd.blk, by decide, by decide⟩)
                  rd := HR8.out.setWhole true
                  fuel := by have := HI.out.fuel; rw [Hbl.out] at this ⊢; omega
                  cap := by have := HI.out.cap; omega
                  le := by omega
                  md := HI.out.md.trans (HM8.out.trans (mod_set w8 r 5 _) (fun _ _ e => e)) (fun _ _ e => .inl e)
                  st := .sim y2 (hFN ▸ Hs2.out) (by have := Ht1.out.2; omega) (fun l' q k => Hk.out l' q (.step (o := none) Hst2.out k)) }
              have hgk : 0 < gk := by have := HI.out.fuel; rw [Hbl.out] at this; omega
              go_roundg (gk - 1)
              case measure => omega
              case rel => exact ⟨false, LA, _, lc, vs, FN, t1, a1, true, rfl, rfl, HI9.out⟩
            | item nn it =>
              obtain ⟨D, dc, rfl, hx6, ho6, hn6⟩ := hp6
              obtain ⟨y2, hst2, hs2⟩ := hstep
              have hlen := front_len Z hF
              rw [List.length_drop, Hbl.out] at hlen
              have b0 : ((nn : Int) == 0) = false := beq_eq_false_iff_ne.2 (by omega)
              have Hst2 := Lib.hid hst2
              have Hs2 := Lib.hid hs2
              have HX7 : Hid (Ext wr (w6.alloc (.cells #[.int .i64 (nn : Int), .bool true, .string (mkB it.path), .int .i8 it.kind, .slice D it.data.length dc, .bool false] 70))) := Lib.hid (hx6.alloc _)
              have HB7 : Hid ((w6.alloc (.cells #[.int .i64 (nn : Int), .bool true, .string (mkB it.path), .int .i8 it.kind, .slice D it.data.length dc, .bool false] 70)).heap[w6.heap.size]? = some (.cells #[.int .i64 (nn : Int), .bool true, .string (mkB it.path), .int .i8 it.kind, .slice D it.data.length dc, .bool false] 70 (0, 0))) := Lib.hid (heap_alloc_new w6 _)
              have HO7 : Hid (Own (w6.alloc (.cells #[.int .i64 (nn : Int), .bool true, .string (mkB it.path), .int .i8 it.kind, .slice D it.data.length dc, .bool false] 70)) 5 1 (.slice D it.data.length dc) it.data.length (u8v it.data)) := Lib.hid (ho6.ext ((Ext.refl _).alloc _))
              have Hn6 : Hid (∀ k, (Value.slice D it.data.length dc).ownBlock = some k → wr.heap.size ≤ k) := Lib.hid hn6
              have hsz6 : wr.heap.size ≤ w6.heap.size := hx6.size
              have hrwr := HI.out.rd.lt
              clear hst2 hs2 hF hx6 ho6 hn6
              unfold nextV
              go_wp2_with fail
              obtain ⟨b8, hb8⟩ : ∃ b, w6.heap.size = b := ⟨_, rfl⟩
              obtain ⟨w7, hw7⟩ : ∃ W, w6.alloc (.cells #[.int .i64 (nn : Int), .bool true, .string (mkB it.path), .int .i8 it.kind, .slice D it.data.length dc, .bool false] 70) = W := ⟨_, rfl⟩
              have hb87 : b8 < w7.heap.size := by rw [← hw7, ← hb8]; simp
              rw [hw7] at HX7 HB7 HO7 ⊢
              rw [hb8] at HB7 hsz6 ⊢
              have hrb : b8 ≠ r := by omega
              obtain ⟨FN, hFN⟩ : ∃ x, f1 + nn = x := ⟨_, rfl⟩
              have p1 : (f1 : Int) + (nn : Int) = (FN : Int) := by omega
              have p2 : IntKind.i64.wrap (FN : Int) = (FN : Int) := IntWalk.i64_in _ (by omega)
              have K1 : ∀ wx, Ext w7 wx → wx.cell? ⟨r, 1, none⟩ = some (.int .i64 (f1 : Int)) := fun wx h => ((HI.out.rd.ext (HX7.out.trans h)).cells).2.1
              have K8 : ∀ wx, Ext w7 wx → wx.cell? ⟨b8, 0, none⟩ = some (.int .i64 (nn : Int)) := fun wx h => (h.cell hb87).trans (cell_of_row _ _ 0 _ 70 (0, 0) HB7.out)
              clear hw7 hb8
              refine region_lin (fun wx => Ext w7 wx) 10 [(0, 3), (1, 3), (2, 3), (3, 3), (4, 0), (5, 3), (6, 0), (7, 3), (8, 3), (9, 3), (10, 2)] ?_ (by kernel_rfl) (by kernel_rfl) ?_ (fun _ _ _ _ _ h => h) ((Ext.refl _).drew) ?_
              rotate_left
              (simp only [planOps, List.mapM_cons, List.mapM_nil, List.getElem?_toArray, List.getElem?_cons_zero, List.getElem?_cons_succ, Option.map_some, Option.bind_eq_bind, Option.bind_some, Option.pure_def]; rfl)
              intro wd hwd hxd
              repeat (first | (refine lin_take ?_ (by rfl) (fun wx hx => ?_) ?_; rotate_left; go_simp; (with_reducible rfl); try simp only [Act.put, List.setIfInBounds_toArray, List.set_cons_zero, List.set_cons_succ]) | (refine lin_skip (by rfl) ?_; try simp only [Act.put, List.setIfInBounds_toArray, List.set_cons_zero, List.set_cons_succ]) | (refine lin_take3 ?_ (by rfl) (fun wx hx => ?_) ?_; rotate_left; go_simp; (with_reducible rfl); try simp only [Act.put, List.setIfInBounds_toArray, List.set_cons_zero, List.set_cons_succ]) | (refine lin_skip3 (by rfl) ?_; try simp only [Act.put, List.setIfInBounds_toArray, List.set_cons_zero, List.set_cons_succ]))
              have HRd := Lib.hid (HI.out.rd.ext (HX7.out.trans hwd))
              have q1 := HRd.out.cells.2.1
              have qf := HRd.out.cells.2.2.2.2.2.2 1
              have HBd : Hid (wd.heap[b8]? = some (.cells #[.int .i64 (nn : Int), .bool true, .string (mkB it.path), .int .i8 it.kind, .slice D it.data.length dc, .bool false] 70 (0, 0))) := Lib.hid ((hwd.block b8 hb87 (fun f => f)).trans HB7.out)
              have hXd := HX7.out.trans hwd
              clear K1 K8
              refine lin_last (by rfl) (fun KC hK => ?_)
              go_simp
              refine hK _ _ trivial ?_
              clear hK
              have HR8 := Lib.hid (HRd.out.setFrom FN)
              have hm8 : Mod (fun k => k = r) wd (wd.setCell ⟨r, 1, none⟩ (.int .i64 (FN : Int))) := mod_set wd r 1 _
              have HM8 : Hid (Mod (fun k => k = r) wr (wd.setCell ⟨r, 1, none⟩ (.int .i64 (FN : Int)))) := Lib.hid (Mod.trans (Mod.mono hXd (fun _ _ f => f.elim)) hm8 (fun _ _ e => e))
              have HB8 : Hid ((wd.setCell ⟨r, 1, none⟩ (.int .i64 (FN : Int))).heap[b8]? = some (.cells #[.int .i64 (nn : Int), .bool true, .string (mkB it.path), .int .i8 it.kind, .slice D it.data.length dc, .bool false] 70 (0, 0))) := Lib.hid ((hm8.block b8 (by have := hwd.size; omega) hrb).trans HBd.out)
              have HO8 : Hid (Own (wd.setCell ⟨r, 1, none⟩ (.int .i64 (FN : Int))) 5 1 (.slice D it.data.length dc) it.data.length (u8v it.data)) := Lib.hid ((HO7.out.ext hwd).mod hm8 (fun k hk e => by have := Hn6.out k hk; omega))
              obtain ⟨w8, hw8⟩ : ∃ W, wd.setCell ⟨r, 1, none⟩ (.int .i64 (FN : Int)) = W := ⟨_, rfl⟩
              rw [hw8] at HR8 HM8 HB8 HO8 ⊢
              have c8 := fun i => cell_of_row _ _ i _ 70 (0, 0) HB8.out
              have c81 := c8 1
              have c82 := c8 2
              have c83 := c8 3
              have c84 := c8 4
              simp only [List.getElem?_toArray, List.getElem?_cons_zero, List.getElem?_cons_succ] at c81 c82 c83 c84
              clear hw8 hm8 hXd hwd hxd q1 qf HBd HRd p1 p2 c8 HO7 HB7
              obtain ⟨i50, hi50, hz50, hsz50, hby50⟩ := info_parts Tryd.info50
              have hcv : vs.length ≤ 1000000 := by have := HI.out.cap; omega
              have HT8 : Hid (ItMine w w8 (.slice LA vs.length lc) vs) := Lib.hid (HI.out.its.other HM8.out (fun k hk => ⟨_, 46, hk ▸ HI.out.rd.blk, by decide, by decide⟩))
              have hnc : ∀ (j : Nat) u, (itv [⟨it, D, dc⟩])[j]? = some u → (w8.alloc (.cells #[.string (mkB it.path), .int .i8 it.kind, .slice D it.data.length dc] 50)).cell? ((⟨w8.heap.size, 0, none⟩ : Addr).add j) = some u := fun j u hu => new_cells _ [.string (mkB it.path), .int .i8 it.kind, .slice D it.data.length dc] 50 j u hu
              have Hnc := Lib.hid hnc
              clear hnc
              go_wp2_with (at_builtin; refine wpList_append_own_any _ rfl (.tmp 88) (.tmp 91) 22 rfl 50 i50 _ 3 48 Tryd.underlying22 hi50 hz50 hsz50 hby50 rfl (by decide) (.slice LA vs.length lc) vs.length (itv vs) rfl (HT8.out.row.ext ((Ext.refl _).alloc _)) (some ⟨w8.heap.size, 0, none⟩) 1 1 (itv [⟨it, D, dc⟩]) rfl rfl (fun _ => ⟨_, rfl, Hnc.out⟩) (itv_one _) (by unfold maxLen; omega) (by omega) ?_)
              intro v' w9 ho hg hv'
              have hx8 : Ext w8 (w8.alloc (.cells #[.string (mkB it.path), .int .i8 it.kind, .slice D it.data.length dc] 50)) := (Ext.refl _).alloc _
              have hsz8 : wr.heap.size ≤ w8.heap.size := HM8.out.size
              have hpu := ItMine.snoc (i := ⟨it, D, dc⟩) (HT8.out.ext hx8) (HO8.out.ext hx8) (fun k hk => by have := Hn6.out k hk; have := HI.out.md.size; omega) (by have := HI.out.md.size; have := hx8.size; omega) ho hg (by simpa using hv')
              have hm9 : Mod (fun k => (Value.slice LA vs.length lc).ownBlock = some k) w8 w9 := Mod.trans (Mod.mono hx8 (fun _ _ f => f.elim)) hpu.2 (fun _ _ e => e)
              have HI9 := Lib.hid hpu.1
              have HR9 := Lib.hid ((HR8.out.ext hx8).row (HT8.out.row.ext hx8) hpu.2)
              have HB9 : Hid (w9.heap[b8]? = some (.cells #[.int .i64 (nn : Int), .bool true, .string (mkB it.path), .int .i8 it.kind, .slice D it.data.length dc, .bool false] 70 (0, 0))) := Lib.hid ((hm9.block b8 ((Array.getElem?_eq_some_iff.1 HB8.out).1) (fun h => by
                obtain ⟨cur, h3⟩ := HT8.out.row.ty h
                rw [HB8.out] at h3; injection h3 with h3; injection h3 with _ h3; exact absurd h3 (by decide))).trans HB8.out)
              have HM9 : Hid (Mod (fun k => k = r ∨ (Value.slice A n c).ownBlock = some k) w w9) := Lib.hid ((HI.out.md.trans HM8.out (fun _ _ e => .inl e)).trans hm9 (fun k hk h => by have := HT8.out.new k h; omega))
              obtain ⟨LA9, lc9, rfl, -, -⟩ := ho.form
              obtain ⟨TN, hTN⟩ : ∃ x, t1 + 1 = x := ⟨_, rfl⟩
              have hTl := Ht1.out.2
              have p3 : (t1 : Int) + 1 = (TN : Int) := by omega
              have p4 : IntKind.i64.wrap (TN : Int) = (TN : Int) := IntWalk.i64_in _ (by omega)
              have c92 := HR9.out.cells.2.2.1
              have f92 := HR9.out.cells.2.2.2.2.2.2 2
              have HR10 := Lib.hid (HR9.out.setTold TN)
              have hm10 : Mod (fun k => k = r) w9 (w9.setCell ⟨r, 2, none⟩ (.int .i64 (TN : Int))) := mod_set w9 r 2 _
              have hB10 := (hm10.block b8 ((Array.getElem?_eq_some_iff.1 HB9.out).1) hrb).trans HB9.out
              have c102 := cell_of_row _ _ 2 _ 70 (0, 0) hB10
              have c103 := HR10.out.cells.2.2.2.1
              have f103 := HR10.out.cells.2.2.2.2.2.2 3
              have HM11 : Hid (Mod (fun k => k = r) w9 ((w9.setCell ⟨r, 2, none⟩ (.int .i64 (TN : Int))).setCell ⟨r, 3, none⟩ (.string (mkB it.path)))) := Lib.hid (hm10.trans (mod_set _ r 3 _) (fun _ _ e => e))
              simp only [List.getElem?_toArray, List.getElem?_cons_zero, List.getElem?_cons_succ] at c102
              clear ho hg hv' hx8 hpu hm9 hm10 hB10 c81 c82 c83 c84 hTl
              go_wp2_with fail
              have HI11 : Hid (RInv Z x r A n c A2 N c2 B3 w (gk - 1) false (.slice LA9 (vs.length + 1) lc9) ((w9.setCell ⟨r, 2, none⟩ (.int .i64 (TN : Int))).setCell ⟨r, 3, none⟩ (.string (mkB it.path))) (vs ++ [⟨it, D, dc⟩]) FN TN it.path false) := Lib.hid
                { its := HI9.out.other HM11.out (fun k hk => ⟨_, 46, hk ▸ HR9.out.blk, by decide, by decide⟩)
                  rd := HR10.out.setLast it.path
                  fuel := by have := HI.out.fuel; rw [Hbl.out] at this ⊢; omega
                  cap := by have := HI.out.cap; rw [List.length_append, List.length_singleton]; omega
                  le := by omega
                  md := HM9.out.trans HM11.out (fun _ _ e => .inl e)
                  st := .sim y2 (hFN ▸ hTN ▸ Hs2.out) (by have := Ht1.out.2; omega) (fun l' q k => by have := Hk.out (it :: l') q (.step (o := some it) Hst2.out k); simpa using this) }
              have hgk : 0 < gk := by have := HI.out.fuel; rw [Hbl.out] at this; omega
              go_roundg (gk - 1)
              case measure => omega
              case rel => exact ⟨false, LA9, _, lc9, vs ++ [⟨it, D, dc⟩], FN, TN, it.path, false, rfl, rfl, HI11.out⟩
    · have b0 : ((f : Int) == 0) = false := beq_eq_false_iff_ne.2 (by omega)
      clear h04 hf0
      go_wp2_with fail
      clear b0 d0 d1 f01
      have HI5 : Hid (RInv Z x r A n c A2 N c2 B3 w N bd0 (.slice none 0 0) w4 [] f t a h) := Lib.hid
        { its := ItMine.nil _ _, rd := HR5.out, fuel := by rw [Hbl.out]; omega, cap := by simp, le := by omega, md := HM5.out, st := HS5.out }
      clear HR5 HM5 HS5
      go_loopg [6, 7] N (fun g bv lv wx => ∃ (bd : Bool) (LA : Option Addr) (ln lc : Nat) (vs : List IV) (f1 t1 : Nat) (a1 : Bs) (h1 : Bool), bv = .bool bd ∧ lv = .slice LA ln lc ∧ RInv Z x r A n c A2 N c2 B3 w g bd lv wx vs f1 t1 a1 h1)
      case atStart => exact ⟨bd0, none, 0, 0, [], f, t, a, h, rfl, rfl, HI5.out⟩
      case round =>
        obtain ⟨bd, LA, ln, lc, vs, f1, t1, a1, h1, rfl, rfl, hinv⟩ := hrel
        have HI := Lib.hid hinv
        obtain ⟨d0, d1, d2, d3, d4, d5, f0⟩ := hinv.rd.cells
        have f02 := f0 4
        have hf1N := hinv.le
        have hst := hinv.st
        have hlv : ln = vs.length := by
          obtain ⟨_, _, hv0, -, -⟩ := hinv.its.row.form
          injection hv0
        subst hlv
        clear hinv HI5 f0
        rcases hst with ⟨hk⟩ | ⟨hk, hx1, hf1, ht1⟩ | ⟨y1, hs1, ht1, hk⟩
        · have Hk := Lib.hid hk
          clear hk
          go_wp2_with fail
          go_ret2
          rw [HN.out]
          exact ⟨vs, none, _, A2, c2, B3, f1, t1, a1, h1, Hk.out, HI.out.its.other (mod_set wr r 4 _) (fun k hk => ⟨_, 46, hk ▸ HI.out.rd.blk, by decide, by decide⟩), HI.out.md.trans (mod_set wr r 4 _) (fun _ _ e => .inl e), rfl, HI.out.rd.setTorn true, hf1N, HV2.out, fun y e => (by cases e)⟩
        · have Hk := Lib.hid hk
          have Hx1 := Lib.hid hx1
          have k4 : decide ((4 : Int) ≤ (f1 : Int)) = false := decide_eq_false (by omega)
          have Hz : Hid (f1 = 0 ∧ t1 = 0) := Lib.hid ⟨hf1, ht1⟩
          clear hk hx1 hf1 ht1
          go_wp2_with fail
          go_ret2
          rw [HN.out]
          exact ⟨vs, some x, _, A2, c2, B3, f1, t1, a1, h1, Hk.out, HI.out.its, HI.out.md, rfl, HI.out.rd, hf1N, HV2.out, fun y e => (by cases e; exact ⟨Hx1.out, by have := Hz.out; omega⟩)⟩
        · have Hk := Lib.hid hk
          have Hs1 := Lib.hid hs1
          have Ht1 : Hid (True ∧ t1 * 21 ≤ f1) := ⟨trivial, ht1⟩
          have hf4 := hs1.four
          have k4 : decide ((4 : Int) ≤ (f1 : Int)) = true := decide_eq_true (by omega)
          clear hk hs1 ht1
          cases h1 with
          | true =>
            go_wp2_with fail
            have K0 : ∀ wx, Ext wr wx → wx.cell? ⟨r, 0, none⟩ = some (.slice A2 N c2) := fun wx h => ((HI.out.rd.ext h).cells).1
            have K1 : ∀ wx, Ext wr wx → wx.cell? ⟨r, 1, none⟩ = some (.int .i64 (f1 : Int)) := fun wx h => ((HI.out.rd.ext h).cells).2.1
            clear d0 d1 d2 d3 d4 d5 f02 k4
            by_cases hgt : f1 < N
            · have hgt' : (f1 : Int) < (N : Int) := by omega
              have Hte : Hid (Runs Z x (vs.map (·.x)) none) := Lib.hid (by
                have := Hk.out [] none (.tear (by rw [Hs1.out.ends, if_neg (by rw [Hbl.out]; omega)]))
                rwa [List.append_nil] at this)
              clear hgt
              refine region_lin (fun wx => Ext wr wx) 100000 [(0, 3), (1, 3), (2, 3), (3, 0), (4, 3), (5, 3), (6, 3), (7, 3), (8, 0), (9, 3), (10, 3)] ?_ (by kernel_rfl) (by kernel_rfl) ?_ (fun _ _ _ _ _ h => h) ((Ext.refl _).drew) ?_
              rotate_left
              (simp only [planOps, List.mapM_cons, List.mapM_nil, List.getElem?_toArray, List.getElem?_cons_zero, List.getElem?_cons_succ, Option.map_some, Option.bind_eq_bind, Option.bind_some, Option.pure_def]; rfl)
              intro wd hwd hxd
              repeat (first | (refine lin_take ?_ (by rfl) (fun wx hx => ?_) ?_; rotate_left; go_simp; (with_reducible rfl); try simp only [Act.put, List.setIfInBounds_toArray, List.set_cons_zero, List.set_cons_succ]) | (refine lin_skip (by rfl) ?_; try simp only [Act.put, List.setIfInBounds_toArray, List.set_cons_zero, List.set_cons_succ]) | (refine lin_take3 ?_ (by rfl) (fun wx hx => ?_) ?_; rotate_left; go_simp; (with_reducible rfl); try simp only [Act.put, List.setIfInBounds_toArray, List.set_cons_zero, List.set_cons_succ]) | (refine lin_skip3 (by rfl) ?_; try simp only [Act.put, List.setIfInBounds_toArray, List.set_cons_zero, List.set_cons_succ]))
              refine lin_nil ?_
              clear K0 K1
              have HRd := Lib.hid (HI.out.rd.ext hwd)
              have hit := HI.out.its.ext hwd
              have hmd := HI.out.md.trans hwd (fun _ _ f => f.elim)
              have g4 := HRd.out.cells.2.2.2.2.1
              have gf := HRd.out.cells.2.2.2.2.2.2 4
              go_wp2_with fail
              go_ret2
              rw [HN.out]
              exact ⟨vs, none, _, A2, c2, B3, f1, t1, a1, true, Hte.out, hit.other (mod_set wd r 4 _) (fun k hk => ⟨_, 46, hk ▸ HRd.out.blk, by decide, by decide⟩), hmd.trans (mod_set wd r 4 _) (fun _ _ e => .inl e), rfl, HRd.out.setTorn true, hf1N, HV2.out, fun y e => (by cases e)⟩
            · have hgt' : ¬ ((f1 : Int) < (N : Int)) := by omega
              have Hte : Hid (Runs Z x (vs.map (·.x)) (some y1)) := Lib.hid (by
                have := Hk.out [] (some y1) (.stop (by rw [Hs1.out.ends, if_pos (by rw [Hbl.out]; omega)]))
                rwa [List.append_nil] at this)
              clear hgt
              refine region_lin (fun wx => Ext wr wx) 100000 [(0, 3), (1, 3), (2, 3), (3, 0), (4, 3), (5, 3), (6, 3), (7, 3), (8, 0), (9, 3), (10, 3)] ?_ (by kernel_rfl) (by kernel_rfl) ?_ (fun _ _ _ _ _ h => h) ((Ext.refl _).drew) ?_
              rotate_left
              (simp only [planOps, List.mapM_cons, List.mapM_nil, List.getElem?_toArray, List.getElem?_cons_zero, List.getElem?_cons_succ, Option.map_some, Option.bind_eq_bind, Option.bind_some, Option.pure_def]; rfl)
              intro wd hwd hxd
              repeat (first | (refine lin_take ?_ (by rfl) (fun wx hx => ?_) ?_; rotate_left; go_simp; (with_reducible rfl); try simp only [Act.put, List.setIfInBounds_toArray, List.set_cons_zero, List.set_cons_succ]) | (refine lin_skip (by rfl) ?_; try simp only [Act.put, List.setIfInBounds_toArray, List.set_cons_zero, List.set_cons_succ]) | (refine lin_take3 ?_ (by rfl) (fun wx hx => ?_) ?_; rotate_left; go_simp; (with_reducible rfl); try simp only [Act.put, List.setIfInBounds_toArray, List.set_cons_zero, List.set_cons_succ]) | (refine lin_skip3 (by rfl) ?_; try simp only [Act.put, List.setIfInBounds_toArray, List.set_cons_zero, List.set_cons_succ]))
              refine lin_nil ?_
              clear K0 K1
              have HRd := Lib.hid (HI.out.rd.ext hwd)
              have hit := HI.out.its.ext hwd
              have hmd := HI.out.md.trans hwd (fun _ _ f => f.elim)
              go_wp2_with fail
              go_ret2
              rw [HN.out]
              exact ⟨vs, some y1, _, A2, c2, B3, f1, t1, a1, true, Hte.out, hit, hmd, rfl, HRd.out, hf1N, HV2.out, fun y e => (by cases e; exact ⟨.inr Hs1.out, Ht1.out.2⟩)⟩
          | false =>
            go_wp2_with fail
            obtain ⟨F, hF⟩ : ∃ F, front Z t1 a1 (fnv Z fnv0 (B3.take f1)) (B3.drop f1) = F := ⟨_, rfl⟩
            have hp := rnext_any Z hZ r A2 N c2 B3 f1 t1 a1 false false wr HI.out.rd (by omega) hf1N (by omega) (by have := Ht1.out.2; omega) Hs1.out.first
            have hstep := Hs1.out.step
            rw [hF] at hp hstep
            clear d0 d1 d2 d3 d4 d5 f02 k4
            refine hp.mono ?_
            clear hp
            intro e w6 hp6
            cases F with
            | bad =>
              obtain ⟨rfl, hx6⟩ := hp6
              have Hte : Hid (Runs Z x (vs.map (·.x)) none) := Lib.hid (by
                have := Hk.out [] none (.tear hstep)
                rwa [List.append_nil] at this)
              have HX6 := Lib.hid hx6
              have HX7 : Hid (Ext wr (w6.alloc (.cells #[.int .i64 0, .bool false, .string ⟨#[]⟩, .int .i8 0, .slice none 0 0, .bool true] 70))) := Lib.hid (hx6.alloc _)
              have HR7 := Lib.hid (HI.out.rd.ext HX7.out)
              have g4 := HR7.out.cells.2.2.2.2.1
              have gf := HR7.out.cells.2.2.2.2.2.2 4
              clear hstep hF hx6
              unfold nextV
              go_wp2_with fail
              go_ret2
              rw [HN.out]
              exact ⟨vs, none, _, A2, c2, B3, f1, t1, a1, false, Hte.out, (HI.out.its.ext HX7.out).other (mod_set _ r 4 _) (fun k hk => ⟨_, 46, hk ▸ HR7.out.blk, by decide, by decide⟩), (HI.out.md.trans HX7.out (fun _ _ f => f.elim)).trans (mod_set _ r 4 _) (fun _ _ e => .inl e), rfl, HR7.out.setTorn true, hf1N, HV2.out, fun y e => (by cases e)⟩
            | wait =>
              obtain ⟨rfl, hx6⟩ := hp6
              have Hte : Hid (Runs Z x (vs.map (·.x)) (some y1)) := Lib.hid (by
                have := Hk.out [] (some y1) (.stop hstep)
                rwa [List.append_nil] at this)
              have HX7 : Hid (Ext wr (w6.alloc (.cells #[.int .i64 0, .bool false, .string ⟨#[]⟩, .int .i8 0, .slice none 0 0, .bool false] 70))) := Lib.hid (hx6.alloc _)
              clear hstep hF hx6
              unfold nextV
              go_wp2_with fail
              go_ret2
              rw [HN.out]
              exact ⟨vs, some y1, _, A2, c2, B3, f1, t1, a1, false, Hte.out, HI.out.its.ext HX7.out, HI.out.md.trans HX7.out (fun _ _ f => f.elim), rfl, HI.out.rd.ext HX7.out, hf1N, HV2.out, fun y e => (by cases e; exact ⟨.inr Hs1.out, Ht1.out.2⟩)⟩
            | fin =>
              obtain ⟨rfl, hx6⟩ := hp6
              obtain ⟨y2, hst2, hs2⟩ := hstep
              have Hst2 := Lib.hid hst2
              have Hs2 := Lib.hid hs2
              have hle2 := hs2.le
              rw [Hbl.out] at hle2
              have HX7 : Hid (Ext wr (w6.alloc (.cells #[.int .i64 13, .bool false, .string ⟨#[]⟩, .int .i8 0, .slice none 0 0, .bool false] 70))) := Lib.hid (hx6.alloc _)
              have HB7 : Hid ((w6.alloc (.cells #[.int .i64 13, .bool false, .string ⟨#[]⟩, .int .i8 0, .slice none 0 0, .bool false] 70)).heap[w6.heap.size]? = some (.cells #[.int .i64 13, .bool false, .string ⟨#[]⟩, .int .i8 0, .slice none 0 0, .bool false] 70 (0, 0))) := Lib.hid (heap_alloc_new w6 _)
              have hsz6 : wr.heap.size ≤ w6.heap.size := hx6.size
              have hrwr := HI.out.rd.lt
              clear hst2 hs2 hF hx6
              unfold nextV
              go_wp2_with fail
              obtain ⟨b8, hb8⟩ : ∃ b, w6.heap.size = b := ⟨_, rfl⟩
              obtain ⟨w7, hw7⟩ : ∃ W, w6.alloc (.cells #[.int .i64 13, .bool false, .string ⟨#[]⟩, .int .i8 0, .slice none 0 0, .bool false] 70) = W := ⟨_, rfl⟩
              have hb87 : b8 < w7.heap.size := by rw [← hw7, ← hb8]; simp
              rw [hw7] at HX7 HB7 ⊢
              rw [hb8] at HB7 hsz6 ⊢
              have hrb : b8 ≠ r := by omega
              obtain ⟨FN, hFN⟩ : ∃ x, f1 + 13 = x := ⟨_, rfl⟩
              have p1 : (f1 : Int) + 13 = (FN : Int) := by omega
              have p2 : IntKind.i64.wrap (FN : Int) = (FN : Int) := IntWalk.i64_in _ (by omega)
              have K1 : ∀ wx, Ext w7 wx → wx.cell? ⟨r, 1, none⟩ = some (.int .i64 (f1 : Int)) := fun wx h => ((HI.out.rd.ext (HX7.out.trans h)).cells).2.1
              have K8 : ∀ wx, Ext w7 wx → wx.cell? ⟨b8, 0, none⟩ = some (.int .i64 13) := fun wx h => (h.cell hb87).trans (cell_of_row _ _ 0 _ 70 (0, 0) HB7.out)
              clear hw7 hb8
              refine region_lin (fun wx => Ext w7 wx) 10 [(0, 3), (1, 3), (2, 3), (3, 3), (4, 0), (5, 3), (6, 0), (7, 3), (8, 3), (9, 3), (10, 2)] ?_ (by kernel_rfl) (by kernel_rfl) ?_ (fun _ _ _ _ _ h => h) ((Ext.refl _).drew) ?_
              rotate_left
              (simp only [planOps, List.mapM_cons, List.mapM_nil, List.getElem?_toArray, List.getElem?_cons_zero, List.getElem?_cons_succ, Option.map_some, Option.bind_eq_bind, Option.bind_some, Option.pure_def]; rfl)
              intro wd hwd hxd
              repeat (first | (refine lin_take ?_ (by rfl) (fun wx hx => ?_) ?_; rotate_left; go_simp; (with_reducible rfl); try simp only [Act.put, List.setIfInBounds_toArray, List.set_cons_zero, List.set_cons_succ]) | (refine lin_skip (by rfl) ?_; try simp only [Act.put, List.setIfInBounds_toArray, List.set_cons_zero, List.set_cons_succ]) | (refine lin_take3 ?_ (by rfl) (fun wx hx => ?_) ?_; rotate_left; go_simp; (with_reducible rfl); try simp only [Act.put, List.setIfInBounds_toArray, List.set_cons_zero, List.set_cons_succ]) | (refine lin_skip3 (by rfl) ?_; try simp only [Act.put, List.setIfInBounds_toArray, List.set_cons_zero, List.set_cons_succ]))
              have HRd := Lib.hid (HI.out.rd.ext (HX7.out.trans hwd))
              have q1 := HRd.out.cells.2.1
              have qf := HRd.out.cells.2.2.2.2.2.2 1
              have HBd : Hid (wd.heap[b8]? = some (.cells #[.int .i64 13, .bool false, .string ⟨#[]⟩, .int .i8 0, .slice none 0 0, .bool false] 70 (0, 0))) := Lib.hid ((hwd.block b8 hb87 (fun f => f)).trans HB7.out)
              have hXd := HX7.out.trans hwd
              clear K1 K8
              refine lin_last (by rfl) (fun KC hK => ?_)
              go_simp
              refine hK _ _ trivial ?_
              clear hK
              have HR8 := Lib.hid (HRd.out.setFrom FN)
              have hm8 : Mod (fun k => k = r) wd (wd.setCell ⟨r, 1, none⟩ (.int .i64 (FN : Int))) := mod_set wd r 1 _
              have HM8 : Hid (Mod (fun k => k = r) wr (wd.setCell ⟨r, 1, none⟩ (.int .i64 (FN : Int)))) := Lib.hid (Mod.trans (Mod.mono hXd (fun _ _ f => f.elim)) hm8 (fun _ _ e => e))
              have HB8 : Hid ((wd.setCell ⟨r, 1, none⟩ (.int .i64 (FN : Int))).heap[b8]? = some (.cells #[.int .i64 13, .bool false, .string ⟨#[]⟩, .int .i8 0, .slice none 0 0, .bool false] 70 (0, 0))) := Lib.hid ((hm8.block b8 (by have := hwd.size; omega) hrb).trans HBd.out)
              obtain ⟨w8, hw8⟩ : ∃ W, wd.setCell ⟨r, 1, none⟩ (.int .i64 (FN : Int)) = W := ⟨_, rfl⟩
              rw [hw8] at HR8 HM8 HB8 ⊢
              have c81 := cell_of_row _ _ 1 _ 70 (0, 0) HB8.out
              simp only [List.getElem?_toArray, List.getElem?_cons_zero, List.getElem?_cons_succ] at c81
              have c85 := HR8.out.cells.2.2.2.2.2.1
              have f85 := HR8.out.cells.2.2.2.2.2.2 5
              clear hw8 hm8 hXd hwd hxd q1 qf HBd HRd HB8 p1 p2
              go_wp2_with fail
              have HI9 : Hid (RInv Z x r A n c A2 N c2 B3 w (gk - 1) false (.slice LA vs.length lc) (w8.setCell ⟨r, 5, none⟩ (.bool true)) vs FN t1 a1 true) := Lib.hid
                { its := HI.out.its.other (HM8.out.trans (mod_set w8 r 5 _) (fun _ _ e => e)) (fun k hk => ⟨_, 46, hk ▸ HI.out.rd.blk, by decide, by decide⟩)
                  rd := HR8.out.setWhole true
                  fuel := by have := HI.out.fuel; rw [Hbl.out] at this ⊢; omega
                  cap := by have := HI.out.cap; omega
                  le := by omega
                  md := HI.out.md.trans (HM8.out.trans (mod_set w8 r 5 _) (fun _ _ e => e)) (fun _ _ e => .inl e)
                  st := .sim y2 (hFN ▸ Hs2.out) (by have := Ht1.out.2; omega) (fun l' q k => Hk.out l' q (.step (o := none) Hst2.out k)) }
              have hgk : 0 < gk := by have := HI.out.fuel; rw [Hbl.out] at this; omega
              go_roundg (gk - 1)
              case measure => omega
              case rel => exact ⟨false, LA, _, lc, vs, FN, t1, a1, true, rfl, rfl, HI9.out⟩
            | item nn it =>
              obtain ⟨D, dc, rfl, hx6, ho6, hn6⟩ := hp6
              obtain ⟨y2, hst2, hs2⟩ := hstep
              have hlen := front_len Z hF
              rw [List.length_drop, Hbl.out] at hlen
              have b0 : ((nn : Int) == 0) = false := beq_eq_false_iff_ne.2 (by omega)
              have Hst2 := Lib.hid hst2
              have Hs2 := Lib.hid hs2
              have HX7 : Hid (Ext wr (w6.alloc (.cells #[.int .i64 (nn : Int), .bool true, .string (mkB it.path), .int .i8 it.kind, .slice D it.data.length dc, .bool false] 70))) := Lib.hid (hx6.alloc _)
              have HB7 : Hid ((w6.alloc (.cells #[.int .i64 (nn : Int), .bool true, .string (mkB it.path), .int .i8 it.kind, .slice D it.data.length dc, .bool false] 70)).heap[w6.heap.size]? = some (.cells #[.int .i64 (nn : Int), .bool true, .string (mkB it.path), .int .i8 it.kind, .slice D it.data.length dc, .bool false] 70 (0, 0))) := Lib.hid (heap_alloc_new w6 _)
              have HO7 : Hid (Own (w6.alloc (.cells #[.int .i64 (nn : Int), .bool true, .string (mkB it.path), .int .i8 it.kind, .slice D it.data.length dc, .bool false] 70)) 5 1 (.slice D it.data.length dc) it.data.length (u8v it.data)) := Lib.hid (ho6.ext ((Ext.refl _).alloc _))
              have Hn6 : Hid (∀ k, (Value.slice D it.data.length dc).ownBlock = some k → wr.heap.size ≤ k) := Lib.hid hn6
              have hsz6 : wr.heap.size ≤ w6.heap.size := hx6.size
              have hrwr := HI.out.rd.lt
              clear hst2 hs2 hF hx6 ho6 hn6
              unfold nextV
              go_wp2_with fail
              obtain ⟨b8, hb8⟩ : ∃ b, w6.heap.size = b := ⟨_, rfl⟩
              obtain ⟨w7, hw7⟩ : ∃ W, w6.alloc (.cells #[.int .i64 (nn : Int), .bool true, .string (mkB it.path), .int .i8 it.kind, .slice D it.data.length dc, .bool false] 70) = W := ⟨_, rfl⟩
              have hb87 : b8 < w7.heap.size := by rw [← hw7, ← hb8]; simp
              rw [hw7] at HX7 HB7 HO7 ⊢
              rw [hb8] at HB7 hsz6 ⊢
              have hrb : b8 ≠ r := by omega
              obtain ⟨FN, hFN⟩ : ∃ x, f1 + nn = x := ⟨_, rfl⟩
              have p1 : (f1 : Int) + (nn : Int) = (FN : Int) := by omega
              have p2 : IntKind.i64.wrap (FN : Int) = (FN : Int) := IntWalk.i64_in _ (by omega)
              have K1 : ∀ wx, Ext w7 wx → wx.cell? ⟨r, 1, none⟩ = some (.int .i64 (f1 : Int)) := fun wx h => ((HI.out.rd.ext (HX7.out.trans h)).cells).2.1
              have K8 : ∀ wx, Ext w7 wx → wx.cell? ⟨b8, 0, none⟩ = some (.int .i64 (nn : Int)) := fun wx h => (h.cell hb87).trans (cell_of_row _ _ 0 _ 70 (0, 0) HB7.out)
              clear hw7 hb8
              refine region_lin (fun wx => Ext w7 wx) 10 [(0, 3), (1, 3), (2, 3), (3, 3), (4, 0), (5, 3), (6, 0), (7, 3), (8, 3), (9, 3), (10, 2)] ?_ (by kernel_rfl) (by kernel_rfl) ?_ (fun _ _ _ _ _ h => h) ((Ext.refl _).drew) ?_
              rotate_left
              (simp only [planOps, List.mapM_cons, List.mapM_nil, List.getElem?_toArray, List.getElem?_cons_zero, List.getElem?_cons_succ, Option.map_some, Option.bind_eq_bind, Option.bind_some, Option.pure_def]; rfl)
              intro wd hwd hxd
              repeat (first | (refine lin_take ?_ (by rfl) (fun wx hx => ?_) ?_; rotate_left; go_simp; (with_reducible rfl); try simp only [Act.put, List.setIfInBounds_toArray, List.set_cons_zero, List.set_cons_succ]) | (refine lin_skip (by rfl) ?_; try simp only [Act.put, List.setIfInBounds_toArray, List.set_cons_zero, List.set_cons_succ]) | (refine lin_take3 ?_ (by rfl) (fun wx hx => ?_) ?_; rotate_left; go_simp; (with_reducible rfl); try simp only [Act.put, List.setIfInBounds_toArray, List.set_cons_zero, List.set_cons_succ]) | (refine lin_skip3 (by rfl) ?_; try simp only [Act.put, List.setIfInBounds_toArray, List.set_cons_zero, List.set_cons_succ]))
              have HRd := Lib.hid (HI.out.rd.ext (HX7.out.trans hwd))
              have q1 := HRd.out.cells.2.1
              have qf := HRd.out.cells.2.2.2.2.2.2 1
              have HBd : Hid (wd.heap[b8]? = some (.cells #[.int .i64 (nn : Int), .bool true, .string (mkB it.path), .int .i8 it.kind, .slice D it.data.length dc, .bool false] 70 (0, 0))) := Lib.hid ((hwd.block b8 hb87 (fun f => f)).trans HB7.out)
              have hXd := HX7.out.trans hwd
              clear K1 K8
              refine lin_last (by rfl) (fun KC hK => ?_)
              go_simp
              refine hK _ _ trivial ?_
              clear hK
              have HR8 := Lib.hid (HRd.out.setFrom FN)
              have hm8 : Mod (fun k => k = r) wd (wd.setCell ⟨r, 1, none⟩ (.int .i64 (FN : Int))) := mod_set wd r 1 _
              have HM8 : Hid (Mod (fun k => k = r) wr (wd.setCell ⟨r, 1, none⟩ (.int .i64 (FN : Int)))) := Lib.hid (Mod.trans (Mod.mono hXd (fun _ _ f => f.elim)) hm8 (fun _ _ e => e))
              have HB8 : Hid ((wd.setCell ⟨r, 1, none⟩ (.int .i64 (FN : Int))).heap[b8]? = some (.cells #[.int .i64 (nn : Int), .bool true, .string (mkB it.path), .int .i8 it.kind, .slice D it.data.length dc, .bool false] 70 (0, 0))) := Lib.hid ((hm8.block b8 (by have := hwd.size; omega) hrb).trans HBd.out)
              have HO8 : Hid (Own (wd.setCell ⟨r, 1, none⟩ (.int .i64 (FN : Int))) 5 1 (.slice D it.data.length dc) it.data.length (u8v it.data)) := Lib.hid ((HO7.out.ext hwd).mod hm8 (fun k hk e => by have := Hn6.out k hk; omega))
              obtain ⟨w8, hw8⟩ : ∃ W, wd.setCell ⟨r, 1, none⟩ (.int .i64 (FN : Int)) = W := ⟨_, rfl⟩
              rw [hw8] at HR8 HM8 HB8 HO8 ⊢
              have c8 := fun i => cell_of_row _ _ i _ 70 (0, 0) HB8.out
              have c81 := c8 1
              have c82 := c8 2
              have c83 := c8 3
              have c84 := c8 4
              simp only [List.getElem?_toArray, List.getElem?_cons_zero, List.getElem?_cons_succ] at c81 c82 c83 c84
              clear hw8 hm8 hXd hwd hxd q1 qf HBd HRd p1 p2 c8 HO7 HB7
              obtain ⟨i50, hi50, hz50, hsz50, hby50⟩ := info_parts Tryd.info50
              have hcv : vs.length ≤ 1000000 := by have := HI.out.cap; omega
              have HT8 : Hid (ItMine w w8 (.slice LA vs.length lc) vs) := Lib.hid (HI.out.its.other HM8.out (fun k hk => ⟨_, 46, hk ▸ HI.out.rd.blk, by decide, by decide⟩))
              have hnc : ∀ (j : Nat) u, (itv [⟨it, D, dc⟩])[j]? = some u → (w8.alloc (.cells #[.string (mkB it.path), .int .i8 it.kind, .slice D it.data.length dc] 50)).cell? ((⟨w8.heap.size, 0, none⟩ : Addr).add j) = some u := fun j u hu => new_cells _ [.string (mkB it.path), .int .i8 it.kind, .slice D it.data.length dc] 50 j u hu
              have Hnc := Lib.hid hnc
              clear hnc
              go_wp2_with (at_builtin; refine wpList_append_own_any _ rfl (.tmp 88) (.tmp 91) 22 rfl 50 i50 _ 3 48 Tryd.underlying22 hi50 hz50 hsz50 hby50 rfl (by decide) (.slice LA vs.length lc) vs.length (itv vs) rfl (HT8.out.row.ext ((Ext.refl _).alloc _)) (some ⟨w8.heap.size, 0, none⟩) 1 1 (itv [⟨it, D, dc⟩]) rfl rfl (fun _ => ⟨_, rfl, Hnc.out⟩) (itv_one _) (by unfold maxLen; omega) (by omega) ?_)
              intro v' w9 ho hg hv'
              have hx8 : Ext w8 (w8.alloc (.cells #[.string (mkB it.path), .int .i8 it.kind, .slice D it.data.length dc] 50)) := (Ext.refl _).alloc _
              have hsz8 : wr.heap.size ≤ w8.heap.size := HM8.out.size
              have hpu := ItMine.snoc (i := ⟨it, D, dc⟩) (HT8.out.ext hx8) (HO8.out.ext hx8) (fun k hk => by have := Hn6.out k hk; have := HI.out.md.size; omega) (by have := HI.out.md.size; have := hx8.size; omega) ho hg (by simpa using hv')
              have hm9 : Mod (fun k => (Value.slice LA vs.length lc).ownBlock = some k) w8 w9 := Mod.trans (Mod.mono hx8 (fun _ _ f => f.elim)) hpu.2 (fun _ _ e => e)
              have HI9 := Lib.hid hpu.1
              have HR9 := Lib.hid ((HR8.out.ext hx8).row (HT8.out.row.ext hx8) hpu.2)
              have HB9 : Hid (w9.heap[b8]? = some (.cells #[.int .i64 (nn : Int), .bool true, .string (mkB it.path), .int .i8 it.kind, .slice D it.data.length dc, .bool false] 70 (0, 0))) := Lib.hid ((hm9.block b8 ((Array.getElem?_eq_some_iff.1 HB8.out).1) (fun h => by
                obtain ⟨cur, h3⟩ := HT8.out.row.ty h
                rw [HB8.out] at h3; injection h3 with h3; injection h3 with _ h3; exact absurd h3 (by decide))).trans HB8.out)
              have HM9 : Hid (Mod (fun k => k = r ∨ (Value.slice A n c).ownBlock = some k) w w9) := Lib.hid ((HI.out.md.trans HM8.out (fun _ _ e => .inl e)).trans hm9 (fun k hk h => by have := HT8.out.new k h; omega))
              obtain ⟨LA9, lc9, rfl, -, -⟩ := ho.form
              obtain ⟨TN, hTN⟩ : ∃ x, t1 + 1 = x := ⟨_, rfl⟩
              have hTl := Ht1.out.2
              have p3 : (t1 : Int) + 1 = (TN : Int) := by omega
              have p4 : IntKind.i64.wrap (TN : Int) = (TN : Int) := IntWalk.i64_in _ (by omega)
              have c92 := HR9.out.cells.2.2.1
              have f92 := HR9.out.cells.2.2.2.2.2.2 2
              have HR10 := Lib.hid (HR9.out.setTold TN)
              have hm10 : Mod (fun k => k = r) w9 (w9.setCell ⟨r, 2, none⟩ (.int .i64 (TN : Int))) := mod_set w9 r 2 _
              have hB10 := (hm10.block b8 ((Array.getElem?_eq_some_iff.1 HB9.out).1) hrb).trans HB9.out
              have c102 := cell_of_row _ _ 2 _ 70 (0, 0) hB10
              have c103 := HR10.out.cells.2.2.2.1
              have f103 := HR10.out.cells.2.2.2.2.2.2 3
              have HM11 : Hid (Mod (fun k => k = r) w9 ((w9.setCell ⟨r, 2, none⟩ (.int .i64 (TN : Int))).setCell ⟨r, 3, none⟩ (.string (mkB it.path)))) := Lib.hid (hm10.trans (mod_set _ r 3 _) (fun _ _ e => e))
              simp only [List.getElem?_toArray, List.getElem?_cons_zero, List.getElem?_cons_succ] at c102
              clear ho hg hv' hx8 hpu hm9 hm10 hB10 c81 c82 c83 c84 hTl
              go_wp2_with fail
              have HI11 : Hid (RInv Z x r A n c A2 N c2 B3 w (gk - 1) false (.slice LA9 (vs.length + 1) lc9) ((w9.setCell ⟨r, 2, none⟩ (.int .i64 (TN : Int))).setCell ⟨r, 3, none⟩ (.string (mkB it.path))) (vs ++ [⟨it, D, dc⟩]) FN TN it.path false) := Lib.hid
                { its := HI9.out.other HM11.out (fun k hk => ⟨_, 46, hk ▸ HR9.out.blk, by decide, by decide⟩)
                  rd := HR10.out.setLast it.path
                  fuel := by have := HI.out.fuel; rw [Hbl.out] at this ⊢; omega
                  cap := by have := HI.out.cap; rw [List.length_append, List.length_singleton]; omega
                  le := by omega
                  md := HM9.out.trans HM11.out (fun _ _ e => .inl e)
                  st := .sim y2 (hFN ▸ hTN ▸ Hs2.out) (by have := Ht1.out.2; omega) (fun l' q k => by have := Hk.out (it :: l') q (.step (o := some it) Hst2.out k); simpa using this) }
              have hgk : 0 < gk := by have := HI.out.fuel; rw [Hbl.out] at this; omega
              go_roundg (gk - 1)
              case measure => omega
              case rel => exact ⟨false, LA9, _, lc9, vs ++ [⟨it, D, dc⟩], FN, TN, it.path, false, rfl, rfl, HI11.out⟩
end Go.Proofs.YtcpnnkkfndgpjaaDoor
