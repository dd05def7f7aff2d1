/- The search of 'circle': its closure's contract. -/
import Derived.Test.YtpjgfkdnjkfnfaaD
namespace Go.Proofs.Ytpjgfkdnjkfnfaa
open Go.RowKit Go.Maps

/-- The weight of the entries that p lets in: h + their place + 1. -/
def sumIf (p : Lk → Bool) (h : Nat) : List Lk → Nat → Nat
  | [], _ => 0
  | x :: l, i => (if p x then h + i + 1 else 0) + sumIf p h l (i + 1)
theorem sumIf_mono {p q : Lk → Bool} (h : Nat) (hpq : ∀ x, q x = true → p x = true) : ∀ l i, sumIf q h l i ≤ sumIf p h l i
  | [], _ => Nat.le_refl _
  | x :: l, i => by
    have := sumIf_mono h hpq l (i + 1)
    simp only [sumIf]
    cases hq : q x with
    | false => simp; omega
    | true => rw [hpq x hq]; simp; omega
theorem sumIf_two {p q r : Lk → Bool} (h : Nat) (hp : ∀ x, p x = true → r x = true) (hq : ∀ x, q x = true → r x = true) (hd : ∀ x, p x = true → q x = false) : ∀ l i, sumIf p h l i + sumIf q h l i ≤ sumIf r h l i
  | [], _ => Nat.le_refl _
  | x :: l, i => by
    have := sumIf_two h hp hq hd l (i + 1)
    simp only [sumIf]
    cases h1 : p x with
    | true => rw [hd x h1, hp x h1]; simp; omega
    | false =>
      cases h2 : q x with
      | true => rw [hq x h2]; simp; omega
      | false => simp; omega
theorem sumIf_drop (p : Lk → Bool) (h : Nat) (l : List Lk) (i : Nat) (hi : i < l.length) : sumIf p h (l.drop i) i = (if p l[i] then h + i + 1 else 0) + sumIf p h (l.drop (i + 1)) (i + 1) := by
  rw [List.drop_eq_getElem_cons hi]
  rfl
/-- What has not been looked at yet weighs. -/
def unseen (H ws : List Lk) (m : Int → Int) : Nat := sumIf (fun x => !decide (1 ≤ m x.who)) H.length ws 0
def mine (H ws : List Lk) (a : Int) (i : Nat) : Nat := sumIf (fun x => decide (x.who = a)) H.length (ws.drop i) i
theorem unseen_mono {H ws m m'} (h : ∀ k, m k ≤ m' k) : unseen H ws m' ≤ unseen H ws m :=
  sumIf_mono _ (fun x hx => by simp at hx ⊢; have := h x.who; omega) _ _
theorem unseen_mark {H ws m a} {v : Int} (hv : 1 ≤ v) (h : ¬ 1 ≤ m a) : unseen H ws (fun j => if j = a then v else m j) + mine H ws a 0 ≤ unseen H ws m := by
  unfold unseen mine
  rw [List.drop_zero]
  refine sumIf_two _ (fun x hx => ?_) (fun x hx => ?_) (fun x hx => ?_) _ _
  · simp at hx ⊢
    by_cases hxa : x.who = a
    · rw [hxa] at hx ⊢; simp at hx; omega
    · rw [if_neg hxa] at hx; omega
  · simp at hx ⊢
    rw [hx]; omega
  · simp at hx ⊢
    intro hxa
    rw [if_pos hxa] at hx; omega

/-- What the search finds in memory. -/
structure Ctx (w : World) (t mb bm bw bt bo bl : Nat) (Aw : Option Addr) (nw cw : Nat) (ws : List Lk) (A : Option Addr) (nh ch : Nat) (H : List Lk) (who : Int) : Prop where
  cm : w.cell? ⟨bm, 0, none⟩ = some (.map (some mb))
  cw : w.cell? ⟨bw, 0, none⟩ = some (.slice Aw nw cw)
  ct : w.cell? ⟨bt, 0, none⟩ = some (.pointer (some ⟨t, 0, none⟩))
  co : w.cell? ⟨bo, 0, none⟩ = some (.int .i64 who)
  cl : w.cell? ⟨bl, 0, none⟩ = some (.func (.func 40) #[] #[.pointer (some ⟨bm, 0, none⟩), .pointer (some ⟨bw, 0, none⟩), .pointer (some ⟨bt, 0, none⟩), .pointer (some ⟨bo, 0, none⟩), .pointer (some ⟨bl, 0, none⟩)])
  ch : w.cell? ⟨t, 0, none⟩ = some (.slice A nh ch)
  sw : LkSl w Aw nw ws
  sh : LkSl w A nh H

theorem Mod.cell_map {w w' : World} {mb n m} (hm : Mod (fun k => k = mb) w w') (hi : IMap w mb n m) {p : Addr} {v : Value} (h : w.cell? p = some v) : w'.cell? p = some v := by
  have hlt := World.block_lt_of_cell? w p h
  rw [hm.cell hlt ?_, h]
  rintro heq
  obtain ⟨D, ⟨es, clock, hb, _⟩, _⟩ := hi
  rw [← heq] at hb
  simp [World.cell?, hb] at h
theorem LkSl.mod_map {w w' : World} {mb k m A n ls} (hs : LkSl w A n ls) (hm : Mod (fun k => k = mb) w w') (hi : IMap w mb k m) : LkSl w' A n ls := by
  refine ⟨hs.1, fun hn => ?_⟩
  obtain ⟨b, off, rfl, hb, hc⟩ := hs.2 hn
  refine ⟨b, off, rfl, Nat.lt_of_lt_of_le hb hm.size, fun k l hl => ?_⟩
  obtain ⟨h1, h2, h3, h4⟩ := hc k l hl
  exact ⟨hm.cell_map hi h1, hm.cell_map hi h2, hm.cell_map hi h3, hm.cell_map hi h4⟩
theorem Ctx.mod {w w' t mb bm bw bt bo bl Aw nw cw ws A nh ch H who k m} (h : Ctx w t mb bm bw bt bo bl Aw nw cw ws A nh ch H who) (hm : Mod (fun k => k = mb) w w') (hi : IMap w mb k m) :
    Ctx w' t mb bm bw bt bo bl Aw nw cw ws A nh ch H who :=
  ⟨hm.cell_map hi h.cm, hm.cell_map hi h.cw, hm.cell_map hi h.ct, hm.cell_map hi h.co, hm.cell_map hi h.cl, hm.cell_map hi h.ch, h.sw.mod_map hm hi, h.sh.mod_map hm hi⟩

def LookPost (H ws : List Lk) (who a : Int) (mb : Nat) (w : World) (c : Nat) (m : Int → Int) (e : Ending) (w' : World) : Prop :=
  ∃ (r : Bool) (m' : Int → Int) (c' : Nat), e = .returned (.bool r) ∧ Mod (fun k => k = mb) w w' ∧ IMap w' mb c' m' ∧ (∀ k, 0 ≤ m' k ∧ m' k ≤ c') ∧ c' + unseen H ws m' ≤ c + 1 + unseen H ws m ∧ Looked H ws who a r m m'

section
variable {t mb bm bw bt bo bl : Nat} {Aw : Option Addr} {nw cw : Nat} {ws : List Lk} {A : Option Addr} {nh ch : Nat} {H : List Lk} {who : Int}
theorem look_seen (a : Int) (c : Nat) (m : Int → Int) (w : World) (h0 : 0 ≤ a) (h1 : a < 256) (hx : Ctx w t mb bm bw bt bo bl Aw nw cw ws A nh ch H who) (hi : IMap w mb c m) (hm : ∀ k, 0 ≤ m k ∧ m k ≤ c) (hc : c + 1 + unseen H ws m ≤ 1000000) (ha : 1 ≤ m a) :
    Calls Try.prog 40 #[.int .i64 a, .pointer (some ⟨bm, 0, none⟩), .pointer (some ⟨bw, 0, none⟩), .pointer (some ⟨bt, 0, none⟩), .pointer (some ⟨bo, 0, none⟩), .pointer (some ⟨bl, 0, none⟩)] w (LookPost H ws who a mb w c m) := by
  have hwa : (Lit.int .i64 a).wf = true := WalkArith.wf_i64 (by omega)
  have hma := hm a
  have hc' : c ≤ 1000000 := by omega
  obtain ⟨w1, hrun, hi1, hm1⟩ := hi.put (by unfold maxLen; omega) a (m a + 1) hwa (WalkArith.wf_i64 (by omega))
  have k1 := hi.look a hwa
  have k2 := hi1.look a hwa
  have c1 := hx.cm
  have c2 := hm1.cell_map hi hx.cm
  have HI := Lib.hid hi1
  have HM := Lib.hid hm1
  have Hm := Lib.hid hm
  clear hi hi1 hm1 hx hm hwa
  generalize hma' : m a = ma at *
  have Hma := Lib.hid hma'
  clear hma'
  simp only [if_true] at k2
  go_enter Try.func40, Try.ntmps40
  go_wp2_with fail
  go_step3
  go_wp2_with fail
  rw [Exit.noGoto_ret]
  go_ret
  have hma := Hma.out
  have hm := Hm.out
  refine ⟨false, _, c + 1, rfl, HM.out, HI.out, fun k => ?_, ?_, ⟨fun k => ?_, ?_, (fun h => by cases h), fun _ b h1 h2 => ?_⟩⟩
  · by_cases hk : k = a
    · rw [if_pos hk]; omega
    · rw [if_neg hk]; have := hm k; omega
  · have := unseen_mono (H := H) (ws := ws) (m := m) (m' := fun j => if j = a then ma + 1 else m j) (fun k => by by_cases hk : k = a <;> simp [hk]; omega)
    omega
  · by_cases hk : k = a
    · rw [if_pos hk, hk]; omega
    · rw [if_neg hk]; omega
  · simp; omega
  · exfalso
    by_cases hk : b = a
    · rw [hk] at h2; omega
    · rw [if_neg hk] at h1; exact h2 h1
end

/-- The search of a under way: m ahead of it, mk now; D: whom it has gone to. -/
structure Run (H ws : List Lk) (who a : Int) (m mk : Int → Int) (D : Int → Prop) : Prop where
  grows : ∀ j, m j ≤ mk j
  here : 1 ≤ mk a
  others : ∀ b, 1 ≤ mk b → ¬ 1 ≤ m b → b ≠ a → ∀ c, Edge H ws b c → c ≠ who ∧ 1 ≤ mk c
  done : ∀ b, D b → b ≠ who ∧ 1 ≤ mk b
theorem Run.next {H ws who a m mk D b mk'} (h : Run H ws who a m mk D) (hl : Looked H ws who b false mk mk') (hb : b ≠ who) : Run H ws who a m mk' (fun x => D x ∨ x = b) where
  grows := fun j => by have := h.grows j; have := hl.grows j; omega
  here := by have := h.here; have := hl.grows a; omega
  others := fun b' h1 h2 h3 c hc => by
    by_cases h4 : 1 ≤ mk b'
    · obtain ⟨r1, r2⟩ := h.others b' h4 h2 h3 c hc
      exact ⟨r1, by have := hl.grows c; omega⟩
    · exact hl.no rfl b' h1 h4 c hc
  done := fun x hx => by
    rcases hx with hx | rfl
    · obtain ⟨r1, r2⟩ := h.done x hx
      exact ⟨r1, by have := hl.grows x; omega⟩
    · exact ⟨hb, hl.here⟩
theorem Run.less {H ws who a m mk D D'} (h : Run H ws who a m mk D) (hd : ∀ b, D' b → D b) : Run H ws who a m mk D' := ⟨h.grows, h.here, h.others, fun b hb => h.done b (hd b hb)⟩
theorem Run.false_ {H ws who a m mk D} (h : Run H ws who a m mk D) (ha : ¬ 1 ≤ m a) (hd : ∀ b, Edge H ws a b → D b) : Looked H ws who a false m mk where
  grows := h.grows
  here := h.here
  yes := fun h => by cases h
  no := fun _ b h1 h2 c hc => by
    by_cases hb : b = a
    · subst hb; exact h.done c (hd c hc)
    · exact h.others b h1 h2 hb c hc
theorem Run.true_ {H ws who a m mk D b} (h : Run H ws who a m mk D) (he : Edge H ws a b) (hb : b = who) : Looked H ws who a true m mk where
  grows := h.grows
  here := h.here
  yes := fun _ => .one (hb ▸ he)
  no := fun h => by cases h
theorem Run.way {H ws who a m mk D b mk'} (h : Run H ws who a m mk D) (he : Edge H ws a b) (hl : Looked H ws who b true mk mk') : Looked H ws who a true m mk' where
  grows := fun j => by have := h.grows j; have := hl.grows j; omega
  here := by have := h.here; have := hl.grows a; omega
  yes := fun _ => .cons he (hl.yes rfl)
  no := fun h => by cases h
/-- Whom the entries ahead of place k lead a to. -/
def Ahead (H ws : List Lk) (a : Int) (k : Nat) (b : Int) : Prop := ∃ i, i < k ∧ ∃ x y, ws[i]? = some x ∧ x.who = a ∧ (y ∈ H ∨ y ∈ ws.take i) ∧ meetB x y = true ∧ y.who = b
theorem sumIf_pos {p : Lk → Bool} (h : Nat) {x : Lk} (hp : p x = true) : ∀ (l : List Lk) (i k : Nat), l[k]? = some x → 1 ≤ sumIf p h l i
  | [], _, _, hk => by simp at hk
  | y :: l, i, k, hk => by
    simp only [sumIf]
    cases k with
    | zero => simp at hk; subst hk; rw [hp]; simp; omega
    | succ k => have := sumIf_pos h hp l (i + 1) k (by simpa using hk); omega
theorem mine_pos {H ws : List Lk} {a : Int} {k : Nat} {x : Lk} (hk : ws[k]? = some x) (hx : x.who = a) : 1 ≤ mine H ws a 0 := by
  unfold mine
  rw [List.drop_zero]
  exact sumIf_pos _ (by simpa using hx) ws 0 k hk
theorem mine_step {H ws : List Lk} {a : Int} {k : Nat} {x : Lk} (hk : ws[k]? = some x) : mine H ws a k = (if x.who = a then H.length + k + 1 else 0) + mine H ws a (k + 1) := by
  unfold mine
  have hlt : k < ws.length := (List.getElem?_eq_some_iff.1 hk).1
  have hx : ws[k] = x := (List.getElem?_eq_some_iff.1 hk).2
  rw [sumIf_drop _ _ _ _ hlt, hx]
  simp

/-- The search of a under way, memory and all: what has been spent of the count, and what is left to spend. -/
structure St (H ws : List Lk) (who a : Int) (mb c : Nat) (m : Int → Int) (base wr : World) (mk : Int → Int) (ck left : Nat) (D : Int → Prop) : Prop where
  mod : Mod (fun j => j = mb) base wr
  map : IMap wr mb ck mk
  bnd : ∀ j, 0 ≤ mk j ∧ mk j ≤ ck
  cnt : ck + unseen H ws mk + left ≤ c + 1 + unseen H ws m
  gr : ∀ j, (if j = a then (1 : Int) else m j) ≤ mk j
  run : Run H ws who a m mk D
theorem St.less {H ws who a mb c m base wr mk ck left left' D D'} (h : St H ws who a mb c m base wr mk ck left D) (hl : left' ≤ left) (hd : ∀ b, D' b → D b) : St H ws who a mb c m base wr mk ck left' D' :=
  ⟨h.mod, h.map, h.bnd, by have := h.cnt; omega, h.gr, h.run.less hd⟩
theorem St.ext {H ws who a mb c m base wr wr' mk ck left D} (h : St H ws who a mb c m base wr mk ck left D) (he : Ext wr wr') : St H ws who a mb c m base wr' mk ck left D :=
  ⟨Mod.then_ h.mod he, h.map.mod he (fun f => f), h.bnd, h.cnt, h.gr, h.run⟩
theorem St.rebase {H ws who a mb c m base base' wr mk ck left D} (h : St H ws who a mb c m base wr mk ck left D) (he : Mod (fun j => j = mb) base' base) : St H ws who a mb c m base' wr mk ck left D :=
  ⟨he.trans h.mod (fun _ _ h => h), h.map, h.bnd, h.cnt, h.gr, h.run⟩
theorem St.on {H ws who a mb c m base wr mk ck left D} (h : St H ws who a mb c m base wr mk ck left D) {base' : World} (he : Mod (fun j => j = mb) base' wr) : St H ws who a mb c m base' wr mk ck left D :=
  ⟨he, h.map, h.bnd, h.cnt, h.gr, h.run⟩
/-- One of a's neighbours has been searched in vain. -/
theorem St.next {H ws who a mb c m base wr mk ck left D b w2 w3 mk' ck'} (h : St H ws who a mb c m base wr mk ck (left + 1) D) (he : Ext wr w2) (hb : b ≠ who)
    (hm : Mod (fun k => k = mb) w2 w3) (hi : IMap w3 mb ck' mk') (hB : ∀ k, 0 ≤ mk' k ∧ mk' k ≤ ck') (hc : ck' + unseen H ws mk' ≤ ck + 1 + unseen H ws mk) (hl : Looked H ws who b false mk mk') :
    St H ws who a mb c m base w3 mk' ck' left (fun x => D x ∨ x = b) :=
  ⟨(Mod.then_ h.mod he).trans hm (fun _ _ h => h), hi, hB, by have := h.cnt; omega, fun j => Int.le_trans (h.gr j) (hl.grows j), h.run.next hl hb⟩
theorem St.post_true {H ws who a mb c m base wr mk ck left D b} (h : St H ws who a mb c m base wr mk ck left D) (w : World) (hbase : Mod (fun j => j = mb) w base) {w2 : World} (he : Ext wr w2) (hE : Edge H ws a b) (hb : b = who) :
    LookPost H ws who a mb w c m (.returned (.bool true)) w2 :=
  ⟨true, mk, ck, rfl, hbase.trans (Mod.then_ h.mod he) (fun _ _ h => h), h.map.mod he (fun f => f), h.bnd, by have := h.cnt; omega, h.run.true_ hE hb⟩
theorem St.post_way {H ws who a mb c m base wr mk ck left D b w2 w3 mk' ck'} (h : St H ws who a mb c m base wr mk ck (left + 1) D) (w : World) (hbase : Mod (fun j => j = mb) w base) (he : Ext wr w2) (hE : Edge H ws a b)
    (hm : Mod (fun k => k = mb) w2 w3) (hi : IMap w3 mb ck' mk') (hB : ∀ k, 0 ≤ mk' k ∧ mk' k ≤ ck') (hc : ck' + unseen H ws mk' ≤ ck + 1 + unseen H ws mk) (hl : Looked H ws who b true mk mk') :
    LookPost H ws who a mb w c m (.returned (.bool true)) w3 :=
  ⟨true, mk', ck', rfl, hbase.trans ((Mod.then_ h.mod he).trans hm (fun _ _ h => h)) (fun _ _ h => h), hi, hB, by have := h.cnt; omega, h.run.way hE hl⟩
theorem St.post_false {H ws who a mb c m base wr mk ck left D} (h : St H ws who a mb c m base wr mk ck left D) (w : World) (hbase : Mod (fun j => j = mb) w base) (ha : ¬ 1 ≤ m a) (hd : ∀ b, Edge H ws a b → D b) :
    LookPost H ws who a mb w c m (.returned (.bool false)) wr :=
  ⟨false, mk, ck, rfl, hbase.trans h.mod (fun _ _ h => h), h.map, h.bnd, by have := h.cnt; omega, h.run.false_ ha hd⟩
theorem mem_take_succ {α : Type} {l : List α} {j : Nat} {y z : α} (hy : l[j]? = some y) (hz : z ∈ l.take (j + 1)) : z ∈ l.take j ∨ z = y := by
  have hlt : j < l.length := (List.getElem?_eq_some_iff.1 hy).1
  have he : l[j] = y := (List.getElem?_eq_some_iff.1 hy).2
  rw [List.take_succ_eq_append_getElem hlt, he] at hz
  simpa using hz
end Go.Proofs.Ytpjgfkdnjkfnfaa
