/- Two tables side by side, the program's and the document's: the contracts of their calls. -/
import Derived.Test.YtpjgfkdnjkfnfaaPI
import Derived.Test.YtpjgfkdnjkfnfaaPF
import Derived.Test.YtpjgfkdnjkfnfaaY
namespace Go.Proofs.Ytpjgfkdnjkfnfaa
open Go.RowKit Go.Maps

theorem TabS.lt {w ty t F H W} (h : TabS w ty t F H W) : TabS w ty t (fun k => F k ∧ k < w.heap.size) H W := by
  obtain ⟨hv, wv, ht, hF⟩ := h
  refine ⟨hv, wv, ht, fun k hk => ⟨hF k hk, ?_⟩⟩
  rcases hk with rfl | hk | hk
  · exact ht.lt
  · exact ht.held.lt k hk
  · exact ht.waits.lt k hk
theorem TabS.mod {S w w' ty t F H W} (h : TabS w ty t F H W) (hm : Mod S w w') (hs : ∀ k, F k → ¬ S k) : TabS w' ty t F H W := by
  obtain ⟨hv, wv, ht, hF⟩ := h
  exact ⟨hv, wv, ht.mod hm (fun k hk => hs k (hF k hk)), hF⟩

/-- The two tables, their blocks apart. -/
structure TT (w0 wr : World) (t r : Nat) (G1 G2 : Nat → Prop) (H W H2 W2 : List Lk) : Prop where
  ext : Ext w0 wr
  one : TabS wr 55 t G1 H W
  two : TabS wr 49 r G2 H2 W2
  b1 : ∀ k, G1 k → w0.heap.size ≤ k ∧ k < wr.heap.size
  b2 : ∀ k, G2 k → w0.heap.size ≤ k ∧ k < wr.heap.size
  apart : ∀ k, G1 k → ¬ G2 k
section
variable {w0 w w' : World} {t r : Nat} {G1 G2 F S : Nat → Prop} {H W H2 W2 H' W' : List Lk}
theorem TT.later (h : TT w0 w t r G1 G2 H W H2 W2) (he : Ext w w') : TT w0 w' t r G1 G2 H W H2 W2 :=
  ⟨h.ext.trans he, h.one.ext he, h.two.ext he, fun k hk => by have := h.b1 k hk; have := he.size; omega, fun k hk => by have := h.b2 k hk; have := he.size; omega, h.apart⟩
theorem TT.mod1 (h : TT w0 w t r G1 G2 H W H2 W2) (hm : Mod G1 w w') (hs : TabS w' 55 t F H' W') (hF : ∀ k, F k → G1 k ∨ w.heap.size ≤ k) : TT w0 w' t r (fun k => F k ∧ k < w'.heap.size) G2 H' W' H2 W2 := by
  have h1 := h.ext.size
  have h2 := hm.size
  refine ⟨h.ext.mod_new hm (fun k hk => (h.b1 k hk).1), hs.lt, h.two.mod hm (fun k hk hg => h.apart k hg hk), fun k hk => ⟨?_, hk.2⟩, fun k hk => by have := h.b2 k hk; omega, fun k hk hg => ?_⟩
  · rcases hF k hk.1 with hg | hg
    · exact (h.b1 k hg).1
    · omega
  · rcases hF k hk.1 with h5 | h5
    · exact h.apart k h5 hg
    · have := h.b2 k hg; omega
theorem TT.mod2 (h : TT w0 w t r G1 G2 H W H2 W2) (hm : Mod G2 w w') (hs : TabS w' 49 r F H' W') (hF : ∀ k, F k → G2 k ∨ w.heap.size ≤ k) : TT w0 w' t r G1 (fun k => F k ∧ k < w'.heap.size) H W H' W' := by
  have h1 := h.ext.size
  have h2 := hm.size
  refine ⟨h.ext.mod_new hm (fun k hk => (h.b2 k hk).1), h.one.mod hm (fun k hk hg => h.apart k hk hg), hs.lt, fun k hk => by have := h.b1 k hk; omega, fun k hk => ⟨?_, hk.2⟩, fun k hk hg => ?_⟩
  · rcases hF k hk.1 with hg | hg
    · exact (h.b2 k hg).1
    · omega
  · rcases hF k hg.1 with h5 | h5
    · exact h.apart k hk h5
    · have := h.b1 k hk; omega
theorem TT.mod0 (h : TT w0 w t r G1 G2 H W H2 W2) (hm : Mod S w w') (hs : ∀ k, S k → w0.heap.size ≤ k ∧ ¬ G1 k ∧ ¬ G2 k) : TT w0 w' t r G1 G2 H W H2 W2 :=
  ⟨h.ext.mod_new hm (fun k hk => (hs k hk).1), h.one.mod hm (fun k hk hg => (hs k hg).2.1 hk), h.two.mod hm (fun k hk hg => (hs k hg).2.2 hk), fun k hk => by have := h.b1 k hk; have := hm.size; omega, fun k hk => by have := h.b2 k hk; have := hm.size; omega, h.apart⟩
end

/-- A block that no table owns, with a lock in it. -/
structure Bx (G1 G2 : Nat → Prop) (wr : World) (bx : Nat) (x : Lk) : Prop where
  n1 : ¬ G1 bx
  n2 : ¬ G2 bx
  bl : bx < wr.heap.size
  at_ : LkAt wr bx 0 x
theorem LkAt.mod2 {S : Nat → Prop} {w w' : World} {b off : Nat} {l : Lk} (h : LkAt w b off l) (hm : Mod S w w') (hb : b < w.heap.size) (hs : ¬ S b) : LkAt w' b off l :=
  ⟨(hm.cell hb hs).trans h.1, (hm.cell hb hs).trans h.2.1, (hm.cell hb hs).trans h.2.2.1, (hm.cell hb hs).trans h.2.2.2⟩
theorem Bx.mod {G1 G2 F1 F2 S : Nat → Prop} {w w' : World} {bx : Nat} {x : Lk} (h : Bx G1 G2 w bx x) (hm : Mod S w w') (hs : ¬ S bx) (h1 : ¬ F1 bx) (h2 : ¬ F2 bx) : Bx F1 F2 w' bx x :=
  ⟨h1, h2, Nat.lt_of_lt_of_le h.bl hm.size, h.at_.mod2 hm h.bl hs⟩

/-- The state between two calls. -/
def S2 (w0 wr : World) (t r bx : Nat) (x : Lk) (H W H2 W2 : List Lk) : Prop := ∃ G1 G2, TT w0 wr t r G1 G2 H W H2 W2 ∧ Bx G1 G2 wr bx x
/-- .. with a list that the program's table told. -/
def S3 (w0 wr : World) (t r bx : Nat) (x : Lk) (H W H2 W2 : List Lk) (v : Value) (ls : List Lk) : Prop := ∃ G1 G2, TT w0 wr t r G1 G2 H W H2 W2 ∧ Bx G1 G2 wr bx x ∧ Own wr 29 4 v ls.length (flat ls) ∧ ∀ k, v.ownBlock = some k → w0.heap.size ≤ k ∧ ¬ G1 k ∧ ¬ G2 k ∧ k ≠ bx
section
variable {w0 w w' : World} {t r bx : Nat} {x : Lk} {H W H2 W2 H' W' told told2 : List Lk} {tv tv2 : Value} {G1 G2 : Nat → Prop}
theorem S2.at_ (h : Hid (S2 w0 w t r bx x H W H2 W2)) : LkAt w bx 0 x := by obtain ⟨_, _, _, h⟩ := h.out; exact h.at_
theorem S3.at_ (h : Hid (S3 w0 w t r bx x H W H2 W2 tv told)) : LkAt w bx 0 x := by obtain ⟨_, _, _, h, _⟩ := h.out; exact h.at_
theorem step1 (h : TT w0 w t r G1 G2 H W H2 W2) (hb : Bx G1 G2 w bx x) (hn : TabN w w' 55 t G1 H' W') : S2 w0 w' t r bx x H' W' H2 W2 := by
  have := hb.bl
  exact ⟨_, _, h.mod1 hn.1 hn.2 (fun k hk => hk), hb.mod hn.1 hb.n1 (fun hk => hk.1.elim hb.n1 (fun h => by omega)) hb.n2⟩
theorem step2 (h : TT w0 w t r G1 G2 H W H2 W2) (hb : Bx G1 G2 w bx x) (hn : TabN w w' 49 r G2 H' W') : S2 w0 w' t r bx x H W H' W' := by
  have := hb.bl
  exact ⟨_, _, h.mod2 hn.1 hn.2 (fun k hk => hk), hb.mod hn.1 hb.n2 hb.n1 (fun hk => hk.1.elim hb.n2 (fun h => by omega))⟩
theorem told1 (h : TT w0 w t r G1 G2 H W H2 W2) (hb : Bx G1 G2 w bx x) (hn : TabR w w' 55 t G1 H' W' tv told) : S3 w0 w' t r bx x H' W' H2 W2 tv told := by
  obtain ⟨hm, G, hG, hsub, ho, hk⟩ := hn
  have := hb.bl
  have := h.ext.size
  refine ⟨_, _, h.mod1 hm hG hsub, hb.mod hm hb.n1 (fun hk => (hsub bx hk.1).elim hb.n1 (fun h => by omega)) hb.n2, ho, fun k hv => ?_⟩
  obtain ⟨h1, h2⟩ := hk k hv
  exact ⟨by omega, fun hg => h2 hg.1, fun hg => by have := h.b2 k hg; omega, by omega⟩
theorem told2_' (h : TT w0 w t r G1 G2 H W H2 W2) (hb : Bx G1 G2 w bx x) (hr : Own w 29 4 tv told.length (flat told) ∧ ∀ k, tv.ownBlock = some k → w0.heap.size ≤ k ∧ ¬ G1 k ∧ ¬ G2 k ∧ k ≠ bx) (hn : TabR w w' 49 r G2 H' W' tv2 told2) : S3 w0 w' t r bx x H W H' W' tv told ∧ Own w' 29 4 tv2 told2.length (flat told2) := by
  obtain ⟨ho, hk⟩ := hr
  obtain ⟨hm, G, hG, hsub, ho2, -⟩ := hn
  have := hb.bl
  have := h.ext.size
  refine ⟨⟨_, _, h.mod2 hm hG hsub, hb.mod hm hb.n2 hb.n1 (fun hk => (hsub bx hk.1).elim hb.n2 (fun h => by omega)), ho.mod hm (fun k hv hg => (hk k hv).2.2.1 hg), fun k hv => ?_⟩, ho2⟩
  obtain ⟨h1, h2, h3, h4⟩ := hk k hv
  have := ho.lt k hv
  exact ⟨h1, h2, fun hg => (hsub k hg.1).elim h3 (fun h => by omega), h4⟩
end

section
variable {w0 w w' : World} {t r bx : Nat} {x : Lk} {H W H2 W2 H' W' told told2 : List Lk} {wa pa na : Int} {sa : Bool}
theorem c_try1 {e : Int} (hv : Hid (tryF ⟨wa, pa, na, sa⟩ H W = e ∧ tryH ⟨wa, pa, na, sa⟩ H W = H')) (h : Hid (S2 w0 w t r bx x H W H2 W2)) :
    Calls Try.prog 17 #[.pointer (some ⟨t, 0, none⟩), .agg #[.int .i64 wa, .int .i64 pa, .int .i64 na, .bool sa]] w fun z w' => z = .returned (.int .i64 e) ∧ Hid (S2 w0 w' t r bx x H' W H2 W2) := by
  obtain ⟨rfl, rfl⟩ := hv.out
  obtain ⟨G1, G2, h, hb⟩ := h.out
  exact (try_any t G1 H W wa pa na sa w h.one).mono fun z w' ⟨h1, h2⟩ => ⟨h1, step1 h hb h2⟩
theorem c_try2 {e : Int} (hv : Hid (tryF ⟨wa, pa, na, sa⟩ H2 W2 = e ∧ tryH ⟨wa, pa, na, sa⟩ H2 W2 = H')) (h : Hid (S2 w0 w t r bx x H W H2 W2)) :
    Calls Try.prog 20 #[.pointer (some ⟨r, 0, none⟩), .agg #[.int .i64 wa, .int .i64 pa, .int .i64 na, .bool sa]] w fun z w' => z = .returned (.int .i64 e) ∧ Hid (S2 w0 w' t r bx x H W H' W2) := by
  obtain ⟨rfl, rfl⟩ := hv.out
  obtain ⟨G1, G2, h, hb⟩ := h.out
  exact (reftry_any r G2 H2 W2 wa pa na sa w h.two).mono fun z w' ⟨h1, h2⟩ => ⟨h1, step2 h hb h2⟩
theorem c_wait1 {b : Bool} {e : Int} (hv : Hid (waitF ⟨wa, pa, na, sa⟩ H W = (b, e) ∧ waitH ⟨wa, pa, na, sa⟩ H W = (H', W'))) (h : Hid (S2 w0 w t r bx x H W H2 W2)) :
    Calls Try.prog 16 #[.pointer (some ⟨t, 0, none⟩), .agg #[.int .i64 wa, .int .i64 pa, .int .i64 na, .bool sa]] w fun z w' => z = .returned (.tuple #[.bool b, .int .i64 e]) ∧ Hid (S2 w0 w' t r bx x H' W' H2 W2) := by
  obtain ⟨hv1, hv2⟩ := hv.out
  obtain ⟨G1, G2, h, hb⟩ := h.out
  refine (wait_any t G1 H W wa pa na sa w h.one).mono fun z w' ⟨h1, h2⟩ => ?_
  rw [hv1] at h1
  rw [hv2] at h2
  exact ⟨h1, step1 h hb h2⟩
theorem c_wait2 {b : Bool} {e : Int} (hv : Hid (waitF ⟨wa, pa, na, sa⟩ H2 W2 = (b, e) ∧ waitH ⟨wa, pa, na, sa⟩ H2 W2 = (H', W'))) (hac : Hid (∀ a, ¬ Way H2 W2 a a)) (h : Hid (S2 w0 w t r bx x H W H2 W2)) :
    Calls Try.prog 21 #[.pointer (some ⟨r, 0, none⟩), .agg #[.int .i64 wa, .int .i64 pa, .int .i64 na, .bool sa]] w fun z w' => z = .returned (.tuple #[.bool b, .int .i64 e]) ∧ Hid (S2 w0 w' t r bx x H W H' W') := by
  obtain ⟨hv1, hv2⟩ := hv.out
  obtain ⟨G1, G2, h, hb⟩ := h.out
  refine (refwait_any r G2 H2 W2 wa pa na sa w h.two hac.out).mono fun z w' ⟨h1, h2⟩ => ?_
  rw [hv1] at h1
  rw [hv2] at h2
  exact ⟨h1, step2 h hb h2⟩
theorem c_free1 {e : Int} (hv : Hid (freeF ⟨wa, pa, na, sa⟩ H W = (e, H', W', told))) (h : Hid (S2 w0 w t r bx x H W H2 W2)) :
    Calls Try.prog 18 #[.pointer (some ⟨t, 0, none⟩), .agg #[.int .i64 wa, .int .i64 pa, .int .i64 na, .bool sa]] w fun z w' => ∃ A c, z = .returned (.tuple #[.slice A told.length c, .int .i64 e]) ∧ Hid (S3 w0 w' t r bx x H' W' H2 W2 (.slice A told.length c) told) := by
  obtain ⟨G1, G2, h, hb⟩ := h.out
  refine (free_call t G1 H W wa pa na sa w h.one).mono fun z w' ⟨tv, h1, h2⟩ => ?_
  rw [hv.out] at h1 h2
  have h3 := told1 h hb h2
  obtain ⟨-, G, -, -, ho, -⟩ := h2
  obtain ⟨A, c, rfl, -, -⟩ := ho.form
  exact ⟨A, c, h1, h3⟩
theorem c_free2 {e : Int} {tv : Value} (hv : Hid (freeF ⟨wa, pa, na, sa⟩ H2 W2 = (e, H', W', told2))) (h : Hid (S3 w0 w t r bx x H W H2 W2 tv told)) :
    Calls Try.prog 22 #[.pointer (some ⟨r, 0, none⟩), .agg #[.int .i64 wa, .int .i64 pa, .int .i64 na, .bool sa]] w fun z w' => ∃ A c, z = .returned (.tuple #[.slice A told2.length c, .int .i64 e]) ∧ Hid (S3 w0 w' t r bx x H W H' W' tv told) ∧ Hid (LkSl w' A told2.length told2) := by
  have h0 := h.out
  obtain ⟨G1, G2, h, hb, hr⟩ := h0
  refine (reffree_call r G2 H2 W2 wa pa na sa w h.two).mono fun z w' ⟨tv2, h1, h2⟩ => ?_
  rw [hv.out] at h1 h2
  obtain ⟨h3, h4⟩ := told2_' h hb hr h2
  obtain ⟨A, c, rfl, -, -⟩ := h4.form
  exact ⟨A, c, h1, h3, LkSl.of_own h4⟩
theorem c_leave1 {who : Int} (hv : Hid (leaveF who H W = (H', W', told))) (h : Hid (S2 w0 w t r bx x H W H2 W2)) :
    Calls Try.prog 24 #[.pointer (some ⟨t, 0, none⟩), .int .i64 who] w fun z w' => ∃ A c, z = .returned (.slice A told.length c) ∧ Hid (S3 w0 w' t r bx x H' W' H2 W2 (.slice A told.length c) told) := by
  obtain ⟨G1, G2, h, hb⟩ := h.out
  refine (leave_any t G1 H W who w h.one).mono fun z w' ⟨tv, h1, h2⟩ => ?_
  rw [hv.out] at h2
  have h3 := told1 h hb h2
  obtain ⟨-, G, -, -, ho, -⟩ := h2
  obtain ⟨A, c, rfl, -, -⟩ := ho.form
  exact ⟨A, c, h1, h3⟩
theorem c_leave2 {who : Int} {tv : Value} (hv : Hid (leaveF who H2 W2 = (H', W', told2))) (h : Hid (S3 w0 w t r bx x H W H2 W2 tv told)) :
    Calls Try.prog 25 #[.pointer (some ⟨r, 0, none⟩), .int .i64 who] w fun z w' => ∃ A c, z = .returned (.slice A told2.length c) ∧ Hid (S3 w0 w' t r bx x H W H' W' tv told) ∧ Hid (LkSl w' A told2.length told2) := by
  have h0 := h.out
  obtain ⟨G1, G2, h, hb, hr⟩ := h0
  refine (refleave_any r G2 H2 W2 who w h.two).mono fun z w' ⟨tv2, h1, h2⟩ => ?_
  rw [hv.out] at h2
  obtain ⟨h3, h4⟩ := told2_' h hb hr h2
  obtain ⟨A, c, rfl, -, -⟩ := h4.form
  exact ⟨A, c, h1, h3, LkSl.of_own h4⟩
theorem c_is {A B : Option Addr} {c d : Nat} (hn : told.length ≤ 256) (h : Hid (S3 w0 w t r bx x H W H2 W2 (.slice A told.length c) told)) (hB : Hid (LkSl w B told.length told)) :
    Calls Try.prog 23 #[.slice A told.length c, .slice B told.length d] w fun z w' => z = .returned (.bool true) ∧ Hid (S2 w0 w' t r bx x H W H2 W2) := by
  obtain ⟨G1, G2, h, hb, ho, hk⟩ := h.out
  refine (is_any A B c d told w ho hB.out hn).mono fun z w' ⟨h1, h2⟩ => ⟨h1, G1, G2, h.mod0 h2 (fun k hv => ⟨(hk k hv).1, (hk k hv).2.1, (hk k hv).2.2.1⟩), hb.mod h2 (fun hv => (hk bx hv).2.2.2 rfl) hb.n1 hb.n2⟩
/-- Of what lies beside, nothing turns. -/
theorem c_held {F : Nat → Prop} (h : TabS w 55 t F H W) : Calls Try.prog 11 #[.pointer (some ⟨t, 0, none⟩)] w fun z w' => ∃ A c, z = .returned (.slice A H.length c) ∧ Ext w w' ∧ Hid (Own w' 29 4 (.slice A H.length c) H.length (flat H)) ∧ Hid (∀ k, (Value.slice A H.length c).ownBlock = some k → w.heap.size ≤ k) :=
  (held_any t F H W w h).mono fun _ _ ⟨v, h1, h2, h3, h4⟩ => by
    obtain ⟨A, c, rfl, -, -⟩ := h2.form
    exact ⟨A, c, h1, h4, h2, h3⟩
theorem c_waits {F : Nat → Prop} (h : TabS w 55 t F H W) : Calls Try.prog 12 #[.pointer (some ⟨t, 0, none⟩)] w fun z w' => ∃ A c, z = .returned (.slice A W.length c) ∧ Ext w w' ∧ Hid (Own w' 29 4 (.slice A W.length c) W.length (flat W)) ∧ Hid (∀ k, (Value.slice A W.length c).ownBlock = some k → w.heap.size ≤ k) :=
  (waits_any t F H W w h).mono fun _ _ ⟨v, h1, h2, h3, h4⟩ => by
    obtain ⟨A, c, rfl, -, -⟩ := h2.form
    exact ⟨A, c, h1, h4, h2, h3⟩
theorem c_is_new {A B : Option Addr} {c d : Nat} (ws : World) (hs : Ext ws w) (hn : told.length ≤ 256) (h : Hid (Own w 29 4 (.slice A told.length c) told.length (flat told))) (hl : ∀ k, (Value.slice A told.length c).ownBlock = some k → ws.heap.size ≤ k) (hB : LkSl w B told.length told) :
    Calls Try.prog 23 #[.slice A told.length c, .slice B told.length d] w fun z w' => z = .returned (.bool true) ∧ Ext ws w' :=
  (is_any A B c d told w h.out hB hn).mono fun _ _ ⟨h1, h2⟩ => ⟨h1, hs.mod_new h2 hl⟩
theorem refnew_any (w : World) : Calls Try.prog 19 #[] w (NewPost 49 w) := by
  go_enter Try.func19, Try.ntmps19
  go_wp2
  go_ret
  exact ⟨rfl, (Ext.refl _).alloc _, tab_new w 49⟩
end
end Go.Proofs.Ytpjgfkdnjkfnfaa
