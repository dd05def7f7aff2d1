/- All bytes read in pieces. -/
import Derived.Test.YtcpnnkkfndgpjaaDoorFE
namespace Go.Proofs.YtcpnnkkfndgpjaaDoor
open Go.RowKit

/-- A slice of two-byte numbers. -/
def U16Sl (w : World) (C : Option Addr) (n : Nat) (cs : List Nat) : Prop :=
  n = cs.length ∧ (0 < n → ∃ b off, C = some ⟨b, off, none⟩ ∧ b < w.heap.size ∧ ∀ (k : Nat) (y : Nat), cs[k]? = some y → w.cell? ⟨b, off + k, none⟩ = some (.int .u16 (y : Int)) ∧ y < 65536)
theorem U16Sl.at {w : World} {C : Option Addr} {n : Nat} {cs : List Nat} (h : U16Sl w C n cs) {k : Nat} (hk : k < n) : ∃ (b off y : Nat), C = some ⟨b, off, none⟩ ∧ b < w.heap.size ∧ y < 65536 ∧ w.cell? ⟨b, off + k, none⟩ = some (.int .u16 (y : Int)) := by
  obtain ⟨b, off, rfl, hb, hc⟩ := h.2 (by omega)
  have hkl : k < cs.length := by have := h.1; omega
  obtain ⟨h1, h2⟩ := hc k _ (List.getElem?_eq_getElem hkl)
  exact ⟨b, off, _, rfl, hb, h2, h1⟩
theorem U16Sl.nil (w : World) : U16Sl w none 0 [] := ⟨rfl, fun h => absurd h (by omega)⟩
/-- What stands when at bytes have been fed. -/
structure ReadInv (Z : Sp) (l : Bs) (r : Nat) (w : World) (v : Value) (t : Bool) (a : Nat) (wx : World) (vs : List IV) (q : Option Rd) : Prop where
  its : ItMine w wx v vs
  ext : Ext w wx
  runs : Runs Z (Rd.new.on (l.take a)) (vs.map (·.x)) q
  cap : vs.length * 21 ≤ a
  rd : (∃ y A' n' c', q = some y ∧ t = false ∧ RdAt wx r A' n' c' y false ∧ y.Fine ∧ n' ≤ a ∧ (∀ k, (Value.slice A' n' c').ownBlock = some k → w.heap.size ≤ k) ∧ (∀ i ∈ vs, ∀ k, i.dat.ownBlock = some k → (Value.slice A' n' c').ownBlock ≠ some k)) ∨
    (q = none ∧ t = true ∧ ∃ y, RdAt wx r none 0 0 y true ∧ y.done = false)
def doneQ : Option Rd → Bool
  | some y => y.done
  | none => false
def ReadPost (Z : Sp) (l : Bs) (w : World) (e : Ending) (w' : World) : Prop :=
  ∃ (vs : List IV) (q : Option Rd) (LA : Option Addr) (lc : Nat), Runs Z (Rd.new.on l) (vs.map (·.x)) q ∧ e = .returned (.tuple #[.slice LA vs.length lc, .bool q.isNone, .bool (doneQ q)]) ∧ ItMine w w' (.slice LA vs.length lc) vs ∧ Ext w w'
/-- Either way a piece is fed: what comes of it. -/
def FedPost (Z : Sp) (l : Bs) (r : Nat) (w wr : World) (v : Value) (vs : List IV) (t : Bool) (a n : Nat) (e : Ending) (w' : World) : Prop :=
  ∃ (vs2 : List IV) (q : Option Rd) (LA : Option Addr) (lc : Nat) (z : Int), e = .returned (.tuple #[.slice LA vs2.length lc, .int .i64 z]) ∧ (z = 0 ∨ z = 260) ∧ Runs Z (Rd.new.on (l.take (a + n))) ((vs ++ vs2).map (·.x)) q ∧ (z = 260 ↔ q = none) ∧ (t = true → q = none) ∧ ItMine w w' v vs ∧ ItMine wr w' (.slice LA vs2.length lc) vs2 ∧ Ext w w' ∧ wr.heap.size ≤ w'.heap.size ∧ (vs ++ vs2).length * 21 ≤ a + n ∧
    ((∃ y A' n' c', q = some y ∧ RdAt w' r A' n' c' y false ∧ y.Fine ∧ n' ≤ a + n ∧ (∀ k, (Value.slice A' n' c').ownBlock = some k → w.heap.size ≤ k) ∧ (∀ i ∈ vs ++ vs2, ∀ k, i.dat.ownBlock = some k → (Value.slice A' n' c').ownBlock ≠ some k)) ∨ (q = none ∧ ∃ y, RdAt w' r none 0 0 y true ∧ y.done = false))
theorem runs_cap {Z : Sp} {x : Rd} {l : List It} {q : Option Rd} (h : Runs Z x l q) : l.length * 21 ≤ x.b.length ∧ (∀ y, q = some y → l.length * 21 + y.b.length ≤ x.b.length) := by
  induction h with
  | stop h => exact ⟨by simp, fun y e => by cases e; simp⟩
  | tear h => exact ⟨by simp, fun y e => by cases e⟩
  | @step r r' o l q h k ih =>
    have h1 := stp_len h
    have h2 : (o.toList ++ l).length = (if o.isSome then 1 else 0) + l.length := by cases o <;> simp; omega
    refine ⟨?_, fun y e => ?_⟩
    · rw [h2]; have := ih.1; cases o <;> simp at h1 ⊢ <;> omega
    · rw [h2]; have := ih.2 y e; cases o <;> simp at h1 ⊢ <;> omega
set_option maxRecDepth 20000 in
theorem fed_any (Z : Sp) (hZ : Z.ok = okP) (l : Bs) (r : Nat) (w wr : World) (v : Value) (t : Bool) (a n : Nat) (vs : List IV) (q : Option Rd) (B : Option Addr) (d : Nat) (m : Int) (hi : ReadInv Z l r w v t a wr vs q) (hr : w.heap.size ≤ r) (hl : BySl wr B n ((l.drop a).take n)) (ha : a + n ≤ 1000000000) (hm : w.cell? ⟨0, 0, none⟩ = some (.int .i64 m)) :
    Calls Tryd.prog 18 #[.pointer (some ⟨r, 0, none⟩), .slice B n d] wr (FedPost Z l r w wr v vs t a n) := by
  have h0 := World.block_lt_of_cell? w _ hm
  have hta : l.take (a + n) = l.take a ++ (l.drop a).take n := by rw [List.take_add]
  rcases hi.rd with ⟨y, A', n', c', rfl, rfl, hrd, hfy, hn', hown, hdat⟩ | ⟨rfl, rfl, y, hrd, hyd⟩
  · refine (feed_any Z hZ r A' B n' c' n d y _ m wr hrd hfy hl (by omega) ((hi.ext.cell h0).trans hm) (fun e => by have := hown 0 e; simp at h0; omega)).mono ?_
    intro e w' hp
    obtain ⟨vs2, q2, v2, h1, h2, h3, h4⟩ := hp
    obtain ⟨LA, lc, rfl, -⟩ := h2.row.form
    have hrr : Runs Z (Rd.new.on (l.take (a + n))) ((vs ++ vs2).map (·.x)) q2 := by
      rw [hta, List.map_append]
      have := runs_app Z ((l.drop a).take n) hi.runs h1
      exact this
    have hx : Ext w w' := hi.ext.fresh h3 (fun i h => by
      rcases h with h | h
      · omega
      · exact hown i h)
    have hit := hi.its.fed hrd h3 hdat
    have hcap : (vs ++ vs2).length * 21 ≤ a + n := by
      have := (runs_cap hrr).1
      rw [List.length_map] at this
      have h5 : (Rd.new.on (l.take (a + n))).b.length ≤ a + n := by show (l.take (a + n)).length ≤ _; simp; omega
      omega
    rcases h4 with ⟨y2, A2, n2, c2, rfl, rfl, h5, h6, h7, h8, h9⟩ | ⟨y2, rfl, rfl, h5, h6⟩
    · refine ⟨vs2, _, LA, lc, 0, rfl, .inl rfl, hrr, ⟨fun h => (by cases h), fun h => (by cases h)⟩, fun h => (by cases h), hit, h2, hx, h3.size, hcap, .inl ⟨y2, A2, n2, c2, rfl, h5, h6, ?_, fun k hk => ?_, fun i hi' k hk e => ?_⟩⟩
      · have h10 : (y.on ((l.drop a).take n)).b.length = n' + n := by show (y.b ++ (l.drop a).take n).length = _; rw [List.length_append, ← hrd.len, ← hl.1]
        omega
      · rcases h8 k hk with h | h
        · exact hown k h
        · have := hi.ext.size; omega
      · rcases List.mem_append.1 hi' with h | h
        · rcases h8 k e with h' | h'
          · exact hdat i h k hk h'
          · obtain ⟨cur, h11⟩ := (hi.its.dat i h).ty hk
            have := (Array.getElem?_eq_some_iff.1 h11).1
            omega
        · exact h9 i h k hk e
    · exact ⟨vs2, _, LA, lc, 260, rfl, .inr rfl, hrr, ⟨fun _ => rfl, fun _ => rfl⟩, fun _ => rfl, hit, h2, hx, h3.size, hcap, .inr ⟨rfl, y2, h5, h6⟩⟩
  · refine (feed_torn r none B 0 0 n d y wr hrd).mono ?_
    rintro e w' ⟨rfl, hx⟩
    refine ⟨[], none, none, 0, 260, rfl, .inr rfl, ?_, ⟨fun _ => rfl, fun _ => rfl⟩, fun _ => rfl, hi.its.ext hx, ItMine.nil _ _, hi.ext.trans hx, hx.size, ?_, .inr ⟨rfl, y, hrd.ext hx, hyd⟩⟩
    · rw [hta, List.append_nil]
      exact runs_tear_app Z ((l.drop a).take n) hi.runs
    · have := hi.cap; rw [List.append_nil]; omega
theorem BySl.piece {w : World} {B X : Option Addr} {lb a n : Nat} {l : Bs} (h : BySl w B lb l) (hn : a + n ≤ lb) (hX : X = (B.map fun x => x.add a) ∨ n = 0) : BySl w X n ((l.drop a).take n) := by
  rcases Nat.eq_zero_or_pos n with rfl | h0
  · rw [List.take_zero]; exact BySl.nil _ _
  · rcases hX with rfl | h1
    · obtain ⟨g, off, rfl, hg, hc⟩ := h.2 (by omega)
      have e : (some (⟨g, off, none⟩ : Addr)).map (fun x => x.add a) = some ⟨g, off + a, none⟩ := by simp [add_off]
      rw [e]
      exact h.part hn
    · omega
theorem ItMine.news {w0 w : World} {A : Option Addr} {c : Nat} {vs : List IV} (h : ItMine w0 w (.slice A vs.length c) vs) : 0 < vs.length → ∃ ad, A = some ad ∧ ∀ (j : Nat) u, (itv vs)[j]? = some u → w.cell? (ad.add j) = some u := fun hn => by
  obtain ⟨A', cap, hv, -, hp⟩ := h.row.form
  injection hv with h1
  subst h1
  obtain ⟨g, off, rfl, -⟩ := hp hn
  exact ⟨_, rfl, fun j u hu => by rw [add_off]; exact h.row.cells rfl j u hu⟩
/-- A piece of a slice of bytes. -/
theorem slice_piece {w : World} {B : Option Addr} {lb cb a M : Nat} {l : Bs} (h : BySl w B lb l) (hn : a + M ≤ lb) (hc : lb ≤ cb) : ∃ B', BySl w B' M ((l.drop a).take M) ∧ ∀ wx, (Instr.slice 26 (.slice B lb cb) (some (.int .i64 (a : Int))) (some (.int .i64 ((a : Int) + (M : Int)))) none).run Tryd.prog wx = .ok (.slice B' M (cb - a)) wx := by
  refine ⟨if cb = a then B else B.map fun x => x.add a, h.piece hn ?_, fun wx => ?_⟩
  · by_cases hca : cb = a
    · exact .inr (by omega)
    · exact .inl (if_neg hca)
  · have he : Tryd.prog.elem 26 = 5 := by kernel_rfl
    have h1 : (0 : Int) ≤ (a : Int) := by omega
    have h2 : (a : Int) ≤ (a : Int) + (M : Int) := by omega
    have h3 : (a : Int) + (M : Int) ≤ (cb : Int) := by omega
    rw [run_slice_lh (P := Tryd.prog) wx 26 B lb cb (by rw [he]; exact Tryd.underlying26) .i64 .i64 _ _ h1 h2 h3, he, Tryd.sizeOf5]
    have e1 : ((a : Int) + (M : Int)).toNat = a + M := by omega
    simp [Result.andThen, sliced, e1]
/-- Two lists of items, one behind the other. -/
theorem ItMine.both {w0 w1 w w' : World} {v v' v2 : Value} {vs vs2 : List IV} (h : ItMine w0 w v vs) (h2 : ItMine w1 w v2 vs2) (h01 : w0.heap.size ≤ w1.heap.size) (h0 : w0.heap.size ≤ w.heap.size) (ho : Own w' 50 3 v' (vs.length + vs2.length) (itv vs ++ itv vs2)) (hg : w.grownBy w' v.ownBlock) (hv : v'.ownBlock = v.ownBlock ∨ v'.ownBlock = some w.heap.size) :
    ItMine w0 w' v' (vs ++ vs2) ∧ Mod (fun k => v.ownBlock = some k) w w' := by
  have hm : Mod (fun k => v.ownBlock = some k) w w' := (Mod.refl _ _).grown hg (fun k e _ => e)
  have hd : ∀ (u : Value) (j : Nat) (xs : List Value), Own w 5 1 u j xs → ∀ k, u.ownBlock = some k → ¬ v.ownBlock = some k := fun u j xs hu k hk hh => by
    obtain ⟨cur, h3⟩ := hu.ty hk
    obtain ⟨cur', h4⟩ := h.row.ty hh
    rw [h4] at h3; injection h3 with h3; injection h3 with _ h3; exact absurd h3 (by decide)
  refine ⟨⟨by rw [List.length_append, itv_app]; exact ho, fun k hk => ?_, fun i hi => ?_, fun i hi k hk => ?_⟩, hm⟩
  · rcases hv with e | e
    · exact h.new k (e ▸ hk)
    · rw [e] at hk; injection hk with hk; omega
  · rcases List.mem_append.1 hi with hi | hi
    · exact (h.dat i hi).mod hm (hd _ _ _ (h.dat i hi))
    · exact (h2.dat i hi).mod hm (hd _ _ _ (h2.dat i hi))
  · rcases List.mem_append.1 hi with hi | hi
    · exact h.dnew i hi k hk
    · exact Nat.le_trans h01 (h2.dnew i hi k hk)
theorem RdAt.row {w w' : World} {r n c : Nat} {A : Option Addr} {x : Rd} {t : Bool} {v : Value} {k : Nat} {xs : List Value} (h : RdAt w r A n c x t) (ho : Own w 50 3 v k xs) (hm : Mod (fun k => v.ownBlock = some k) w w') : RdAt w' r A n c x t :=
  h.mod hm (fun e => by
    obtain ⟨cur', h4⟩ := ho.ty e
    rw [h.blk] at h4; injection h4 with h4; injection h4 with _ h4; exact absurd h4 (by decide)) (fun k hk e => by
    obtain ⟨cur', h4⟩ := ho.ty e
    obtain ⟨cur, h3⟩ := h.own.ty hk
    rw [h3] at h4; injection h4 with h4; injection h4 with _ h4; exact absurd h4 (by decide))
set_option maxRecDepth 20000 in
set_option maxHeartbeats 4000000 in
theorem read_any (Z : Sp) (hZ : Z.ok = okP) (B C : Option Addr) (lb cb nc cc : Nat) (l : Bs) (cs : List Nat) (m : Int) (w : World) (hl : BySl w B lb l) (hc : U16Sl w C nc cs) (hcb : lb ≤ cb) (hlb : lb ≤ 100000000) (hnc : nc ≤ 1000000) (hm : w.cell? ⟨0, 0, none⟩ = some (.int .i64 m)) :
    Calls Tryd.prog 17 #[.slice B lb cb, .slice C nc cc] w (ReadPost Z l w) := by
  have HL := Lib.hid hl
  have HC := Lib.hid hc
  have HM := Lib.hid hm
  have hll := hl.1
  have Hll := Lib.hid hll
  obtain ⟨i50, hi50, hz50, hsz50, hby50⟩ := info_parts Tryd.info50
  clear hl hc hm hll
  go_enter Tryd.func17, Tryd.ntmps17
  go_wp2_with fail
  refine (new_any w).mono ?_
  rintro e w1 ⟨rfl, hx1, hr1⟩
  have HI1 : Hid (ReadInv Z l w.heap.size w (.slice none 0 0) false 0 w1 [] (some Rd.new)) := Lib.hid
    { its := ItMine.nil _ _
      ext := hx1
      runs := by
        have e1 : Rd.new.on (l.take 0) = Rd.new := rfl
        rw [e1]
        exact .stop (first_stop Z rfl rfl (by decide))
      cap := by simp
      rd := .inl ⟨Rd.new, none, 0, 0, rfl, rfl, hr1, Rd.new_fine, by omega, fun k h => by simp [Value.ownBlock] at h, fun _ h => by simp at h⟩ }
  clear hx1 hr1
  go_wp2_with fail
  go_loopw [4, 5, 8, 9] (fun lv tv av iv wr => ∃ (LA : Option Addr) (ln lc : Nat) (t : Bool) (a k : Nat) (vs : List IV) (q : Option Rd), lv = .slice LA ln lc ∧ tv = .bool t ∧ av = .int .i64 (a : Int) ∧ iv = .int .i64 (k : Int) ∧ a ≤ lb ∧ k ≤ nc + 1 ∧ (nc < k → a = lb) ∧ ReadInv Z l w.heap.size w (.slice LA ln lc) t a wr vs q) (fun _ _ _ iv _ => nc + 1 - (intOf iv).toNat)
  case atStart => exact ⟨none, 0, 0, false, 0, 0, [], some Rd.new, rfl, rfl, rfl, rfl, Nat.zero_le _, Nat.zero_le _, fun h => absurd h (by omega), HI1.out⟩
  case round =>
    obtain ⟨LA, ln, lc, t, a, k, vs, q, rfl, rfl, rfl, rfl, hal, hk, hend, hinv⟩ := hrel
    have HI := Lib.hid hinv
    have hsub : IntKind.i64.wrap ((lb : Int) - (a : Int)) = ((lb - a : Nat) : Int) := by rw [IntWalk.i64_in _ (by omega)]; omega
    clear hinv HI1
    by_cases hlt : k ≤ nc
    · by_cases hlt2 : k < nc
      · obtain ⟨b, off, y, rfl, hbw, hy, hcy⟩ := HC.out.at hlt2
        have cy := (HI.out.ext.cell (p := ⟨b, off + k, none⟩) hbw).trans hcy
        clear hcy
        obtain ⟨M, hM⟩ : ∃ M, min (lb - a) y = M := ⟨_, rfl⟩
        have hmin : min ((lb - a : Nat) : Int) (y : Int) = (M : Int) := by omega
        have haM : a + M ≤ lb := by omega
        have hadd : IntKind.i64.wrap ((a : Int) + (M : Int)) = ((a + M : Nat) : Int) := by rw [IntWalk.i64_in _ (by omega)]; omega
        have hnx : Hid (nc < k + 1 → a + M = lb) := Lib.hid (fun h => absurd h (by omega))
        obtain ⟨B', hbp, hsl⟩ := slice_piece (HL.out.ext HI.out.ext) haM hcb
        have Hbp := Lib.hid hbp
        clear hM hend hbp
        go_wp2_with fail
        all_goals
          refine (fed_any Z hZ l w.heap.size w wr (.slice LA ln lc) t a M vs q _ _ m HI.out (Nat.le_refl _) Hbp.out (by omega) HM.out).mono ?_
          rintro e w4 ⟨vs2, q2, LA2, lc2, z, rfl, hz, hruns, hzq, htq, hit, hit2, hx4, hsz4, hcap, hrd⟩
          have HR4 := Lib.hid hruns
          have Hit := Lib.hid hit
          have Hit2 := Lib.hid hit2
          have HX4 := Lib.hid hx4
          have Hrd := Lib.hid hrd
          have Hcap := Lib.hid hcap
          have Hsz := Lib.hid (HI.out.ext.size)
          have hlv : ln = vs.length := by
            obtain ⟨_, _, hv0, -, -⟩ := hit.row.form
            injection hv0
          subst hlv
          have hcv : vs.length + vs2.length ≤ 10000000 := by rw [List.length_append] at hcap; omega
          have hq2 : q2 = none ∧ z = 260 ∨ (∃ y, q2 = some y) ∧ z = 0 ∧ t = false := by
            rcases hz with rfl | rfl
            · cases hq : q2 with
              | none => rw [hq] at hzq; exact absurd (hzq.2 rfl) (by decide)
              | some y => cases t with
                | true => have := htq rfl; rw [hq] at this; cases this
                | false => exact .inr ⟨⟨y, rfl⟩, rfl, rfl⟩
            · exact .inl ⟨hzq.1 rfl, rfl⟩
          clear hruns hit hit2 hx4 hrd hcap hzq htq hz
          go_wp2_with (at_builtin; refine wpList_append_own_any _ rfl (.tmp 46) (.tmp 47) 22 rfl 50 i50 _ 3 48 Tryd.underlying22 hi50 hz50 hsz50 hby50 rfl (by decide) (.slice LA vs.length lc) vs.length (itv vs) rfl Hit.out.row LA2 vs2.length lc2 (itv vs2) rfl (itv_len vs2) Hit2.out.news (itv_one _) (by unfold maxLen; omega) (by omega) ?_)
          intro v9 w9 ho hg hv'
          have hb9 := Hit.out.both Hit2.out (by have := Hsz.out; omega) (by have := HX4.out.size; omega) ho hg hv'
          obtain ⟨hi9, hm9⟩ := hb9
          have HI9 := Lib.hid hi9
          have HX9 : Hid (Ext w w9) := Lib.hid (HX4.out.fresh hm9 (fun k h => Hit.out.new k h))
          have Hrd9 : Hid ((∃ y A' n' c', q2 = some y ∧ RdAt w9 w.heap.size A' n' c' y false ∧ y.Fine ∧ n' ≤ a + M ∧ (∀ k, (Value.slice A' n' c').ownBlock = some k → w.heap.size ≤ k) ∧ (∀ i ∈ vs ++ vs2, ∀ k, i.dat.ownBlock = some k → (Value.slice A' n' c').ownBlock ≠ some k)) ∨ (q2 = none ∧ ∃ y, RdAt w9 w.heap.size none 0 0 y true ∧ y.done = false)) := Lib.hid (by
            rcases Hrd.out with ⟨y, A', n', c', h1, h2, h3⟩ | ⟨h1, y, h2, h3⟩
            · exact .inl ⟨y, A', n', c', h1, h2.row Hit.out.row hm9, h3⟩
            · exact .inr ⟨h1, y, h2.row Hit.out.row hm9, h3⟩)
          obtain ⟨LA9, lc9, rfl, -, -⟩ := ho.form
          clear ho hg hv' hi9 hm9
          rcases hq2 with ⟨rfl, rfl⟩ | ⟨⟨yy, rfl⟩, rfl, rfl⟩
          · cases t
            all_goals
              go_wp2_with fail
              go_roundw
              case rel => exact ⟨LA9, _, lc9, true, a + M, k + 1, vs ++ vs2, none, rfl, rfl, rfl, by go_num, haM, by omega, hnx.out,
                { its := HI9.out, ext := HX9.out, runs := HR4.out, cap := Hcap.out, rd := .inr ⟨rfl, rfl, by rcases Hrd9.out with ⟨y, _, _, _, h, -⟩ | ⟨-, h⟩; cases h; exact h⟩ }⟩
              case measure => simp [intOf] <;> omega
          · go_wp2_with fail
            go_roundw
            case rel => exact ⟨LA9, _, lc9, false, a + M, k + 1, vs ++ vs2, some yy, rfl, rfl, rfl, by go_num, haM, by omega, hnx.out,
              { its := HI9.out, ext := HX9.out, runs := HR4.out, cap := Hcap.out, rd := .inl (by rcases Hrd9.out with ⟨y, A', n', c', h, h2⟩ | ⟨h, -⟩; exact ⟨y, A', n', c', h, rfl, h2⟩; cases h) }⟩
            case measure => simp [intOf] <;> omega
      · have hkn : k = nc := by omega
        subst hkn
        obtain ⟨M, hM⟩ : ∃ M, lb - a = M := ⟨_, rfl⟩
        rw [hM] at hsub
        have haM : a + M ≤ lb := by omega
        have hadd : IntKind.i64.wrap ((a : Int) + (M : Int)) = ((a + M : Nat) : Int) := by rw [IntWalk.i64_in _ (by omega)]; omega
        have hnx : Hid (k < k + 1 → a + M = lb) := Lib.hid (fun _ => by omega)
        obtain ⟨B', hbp, hsl⟩ := slice_piece (HL.out.ext HI.out.ext) haM hcb
        have Hbp := Lib.hid hbp
        clear hM hend hbp
        go_wp2_with fail
        all_goals
          refine (fed_any Z hZ l w.heap.size w wr (.slice LA ln lc) t a M vs q _ _ m HI.out (Nat.le_refl _) Hbp.out (by omega) HM.out).mono ?_
          rintro e w4 ⟨vs2, q2, LA2, lc2, z, rfl, hz, hruns, hzq, htq, hit, hit2, hx4, hsz4, hcap, hrd⟩
          have HR4 := Lib.hid hruns
          have Hit := Lib.hid hit
          have Hit2 := Lib.hid hit2
          have HX4 := Lib.hid hx4
          have Hrd := Lib.hid hrd
          have Hcap := Lib.hid hcap
          have Hsz := Lib.hid (HI.out.ext.size)
          have hlv : ln = vs.length := by
            obtain ⟨_, _, hv0, -, -⟩ := hit.row.form
            injection hv0
          subst hlv
          have hcv : vs.length + vs2.length ≤ 10000000 := by rw [List.length_append] at hcap; omega
          have hq2 : q2 = none ∧ z = 260 ∨ (∃ y, q2 = some y) ∧ z = 0 ∧ t = false := by
            rcases hz with rfl | rfl
            · cases hq : q2 with
              | none => rw [hq] at hzq; exact absurd (hzq.2 rfl) (by decide)
              | some y => cases t with
                | true => have := htq rfl; rw [hq] at this; cases this
                | false => exact .inr ⟨⟨y, rfl⟩, rfl, rfl⟩
            · exact .inl ⟨hzq.1 rfl, rfl⟩
          clear hruns hit hit2 hx4 hrd hcap hzq htq hz
          go_wp2_with (at_builtin; refine wpList_append_own_any _ rfl (.tmp 46) (.tmp 47) 22 rfl 50 i50 _ 3 48 Tryd.underlying22 hi50 hz50 hsz50 hby50 rfl (by decide) (.slice LA vs.length lc) vs.length (itv vs) rfl Hit.out.row LA2 vs2.length lc2 (itv vs2) rfl (itv_len vs2) Hit2.out.news (itv_one _) (by unfold maxLen; omega) (by omega) ?_)
          intro v9 w9 ho hg hv'
          have hb9 := Hit.out.both Hit2.out (by have := Hsz.out; omega) (by have := HX4.out.size; omega) ho hg hv'
          obtain ⟨hi9, hm9⟩ := hb9
          have HI9 := Lib.hid hi9
          have HX9 : Hid (Ext w w9) := Lib.hid (HX4.out.fresh hm9 (fun k h => Hit.out.new k h))
          have Hrd9 : Hid ((∃ y A' n' c', q2 = some y ∧ RdAt w9 w.heap.size A' n' c' y false ∧ y.Fine ∧ n' ≤ a + M ∧ (∀ k, (Value.slice A' n' c').ownBlock = some k → w.heap.size ≤ k) ∧ (∀ i ∈ vs ++ vs2, ∀ k, i.dat.ownBlock = some k → (Value.slice A' n' c').ownBlock ≠ some k)) ∨ (q2 = none ∧ ∃ y, RdAt w9 w.heap.size none 0 0 y true ∧ y.done = false)) := Lib.hid (by
            rcases Hrd.out with ⟨y, A', n', c', h1, h2, h3⟩ | ⟨h1, y, h2, h3⟩
            · exact .inl ⟨y, A', n', c', h1, h2.row Hit.out.row hm9, h3⟩
            · exact .inr ⟨h1, y, h2.row Hit.out.row hm9, h3⟩)
          obtain ⟨LA9, lc9, rfl, -, -⟩ := ho.form
          clear ho hg hv' hi9 hm9
          rcases hq2 with ⟨rfl, rfl⟩ | ⟨⟨yy, rfl⟩, rfl, rfl⟩
          · cases t
            all_goals
              go_wp2_with fail
              go_roundw
              case rel => exact ⟨LA9, _, lc9, true, a + M, k + 1, vs ++ vs2, none, rfl, rfl, rfl, by go_num, haM, by omega, hnx.out,
                { its := HI9.out, ext := HX9.out, runs := HR4.out, cap := Hcap.out, rd := .inr ⟨rfl, rfl, by rcases Hrd9.out with ⟨y, _, _, _, h, -⟩ | ⟨-, h⟩; cases h; exact h⟩ }⟩
              case measure => simp [intOf] <;> omega
          · go_wp2_with fail
            go_roundw
            case rel => exact ⟨LA9, _, lc9, false, a + M, k + 1, vs ++ vs2, some yy, rfl, rfl, rfl, by go_num, haM, by omega, hnx.out,
              { its := HI9.out, ext := HX9.out, runs := HR4.out, cap := Hcap.out, rd := .inl (by rcases Hrd9.out with ⟨y, A', n', c', h, h2⟩ | ⟨h, -⟩; exact ⟨y, A', n', c', h, rfl, h2⟩; cases h) }⟩
            case measure => simp [intOf] <;> omega
    · have hal' : a = lb := hend (by omega)
      have Hal := Lib.hid hal'
      have HR4 : Hid (Runs Z (Rd.new.on l) (vs.map (·.x)) q) := Lib.hid (by
        have := HI.out.runs
        rwa [Hal.out, List.take_of_length_le (by rw [Hll.out]; exact Nat.le_refl _)] at this)
      have hlv : ln = vs.length := by
        obtain ⟨_, _, hv0, -, -⟩ := HI.out.its.row.form
        injection hv0
      subst hlv
      clear hal' hend hsub
      go_wp2_with fail
      rcases HI.out.rd with ⟨y, A', n', c', rfl, rfl, hrd, -, -, -, -⟩ | ⟨rfl, rfl, y, hrd, hyd⟩
      · refine (done_any _ n' c' A' y false wr hrd).mono ?_
        rintro e w4 ⟨rfl, rfl⟩
        obtain ⟨dn, hdn⟩ : ∃ d, y.done = d := ⟨_, rfl⟩
        have Hdn := Lib.hid hdn
        rw [hdn]
        clear hdn hrd
        go_wp2_with fail
        go_ret3
        exact ⟨vs, some y, LA, lc, HR4.out, by show _ = Ending.returned (.tuple #[_, .bool false, .bool y.done]); rw [Hdn.out]; rfl, HI.out.its, HI.out.ext⟩
      · refine (done_any _ 0 0 none y true wr hrd).mono ?_
        rintro e w4 ⟨rfl, rfl⟩
        rw [hyd]
        clear hyd hrd
        go_wp2_with fail
        go_ret3
        exact ⟨vs, none, LA, lc, HR4.out, rfl, HI.out.its, HI.out.ext⟩
end Go.Proofs.YtcpnnkkfndgpjaaDoor
