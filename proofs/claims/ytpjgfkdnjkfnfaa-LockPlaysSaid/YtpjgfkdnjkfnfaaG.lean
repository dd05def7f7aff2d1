/- The search of 'circle': at one that had not been looked at. -/
import Derived.Test.YtpjgfkdnjkfnfaaE
namespace Go.Proofs.Ytpjgfkdnjkfnfaa
open Go.RowKit Go.Maps

theorem Ext.to_mod {mb : Nat} {w w' : World} (h : Ext w w') : Mod (fun k => k = mb) w w' := Mod.mono h (fun _ _ f => f.elim)
theorem Ext.cell_some {w w' : World} (h : Ext w w') {p : Addr} {v : Value} (hc : w.cell? p = some v) : w'.cell? p = some v := (h.cell (World.block_lt_of_cell? w p hc)).trans hc

set_option maxRecDepth 20000 in
set_option maxHeartbeats 2000000 in
theorem look_any {t mb bm bw bt bo bl : Nat} {Aw : Option Addr} {nw cw : Nat} {ws : List Lk} {A : Option Addr} {nh ch : Nat} {H : List Lk} {who : Int}
    (hH : ∀ l ∈ H, mayB l = true) (hW : ∀ l ∈ ws, mayB l = true) (hnw : nw ≤ 256) (hnh : nh ≤ 256) (hcw : nw ≤ cw) :
    ∀ (f : Nat) (a : Int) (c : Nat) (m : Int → Int) (w : World), unseen H ws m < f → 0 ≤ a → a < 256 → Ctx w t mb bm bw bt bo bl Aw nw cw ws A nh ch H who → IMap w mb c m → (∀ k, 0 ≤ m k ∧ m k ≤ c) → c + 1 + unseen H ws m ≤ 1000000 →
    Calls Try.prog 40 #[.int .i64 a, .pointer (some ⟨bm, 0, none⟩), .pointer (some ⟨bw, 0, none⟩), .pointer (some ⟨bt, 0, none⟩), .pointer (some ⟨bo, 0, none⟩), .pointer (some ⟨bl, 0, none⟩)] w (LookPost H ws who a mb w c m) := by
  have HH := Lib.hid hH
  have HW := Lib.hid hW
  clear hH hW
  intro f
  induction f with
  | zero => intro a c m w h; omega
  | succ f ih0 =>
    have ih := Lib.hid ih0
    clear ih0
    intro a c m w hf h0 h1 hx hi hm hc
    by_cases ha : 1 ≤ m a
    · exact look_seen a c m w h0 h1 hx hi hm hc ha
    have hwa : (Lit.int .i64 a).wf = true := WalkArith.wf_i64 (by omega)
    have hma := hm a
    have hc' : c ≤ 1000000 := by omega
    have h00 : m a = 0 := by omega
    obtain ⟨w1, hrun, hi1, hm1⟩ := hi.put (by unfold maxLen; omega) a 1 hwa (by decide)
    have k1 := hi.look a hwa
    have k2 := hi1.look a hwa
    have c1 := hx.cm
    have hx1 := hx.mod hm1 hi
    have c2 := hx1.cm
    have c3 := hx1.cw
    have HX : Hid (Ctx w1 t mb bm bw bt bo bl Aw nw cw ws A nh ch H who) := hx1
    have Hnw : Hid (nw = ws.length) := hx1.sw.1
    have Hnh : Hid (nh = H.length) := hx1.sh.1
    have Hm1 := Lib.hid hm1
    have Hnseen : Hid (¬ 1 ≤ m a) := ha
    have Hmark : Hid (unseen H ws (fun j => if j = a then 1 else m j) + mine H ws a 0 ≤ unseen H ws m) := unseen_mark (by omega) ha
    have H0 : Hid (St H ws who a mb c m w1 w1 (fun j => if j = a then 1 else m j) (c + 1) (mine H ws a 0) (Ahead H ws a 0)) := by
      refine ⟨Mod.refl _ _, hi1, fun k => ?_, by have := Hmark.out; omega, fun j => Int.le_refl _, ⟨fun j => ?_, by simp, fun b h1 h2 h3 => ?_, fun b hb => ?_⟩⟩
      · by_cases hk : k = a
        · simp [hk]; omega
        · simp only [if_neg hk]; have := hm k; omega
      · by_cases hj : j = a
        · simp [hj]; omega
        · simp [hj]
      · rw [if_neg h3] at h1; exact absurd h1 h2
      · obtain ⟨i, hi, _⟩ := hb; omega
    have Hf : Hid (∀ mk : Int → Int, 1 ≤ mine H ws a 0 → (∀ j, (if j = a then (1 : Int) else m j) ≤ mk j) → unseen H ws mk < f) := by
      intro mk hp hg
      have h1 := unseen_mono (H := H) (ws := ws) hg
      have h2 := Hmark.out
      omega
    rw [h00] at k1
    simp only [if_true] at k2
    clear hi hi1 hm1 hx hm hwa hx1 ha h00 hma Hmark
    go_enter Try.func40, Try.ntmps40
    go_wp2_with fail
    go_step3
    go_wp2_with fail
    go_step3
    go_wp2_with fail
    go_loopw [24] (fun i wr => ∃ (k : Nat) (mk : Int → Int) (ck : Nat), k ≤ nw ∧ i = .int .i64 k ∧ St H ws who a mb c m w1 wr mk ck (mine H ws a k) (Ahead H ws a k)) (fun i _ => nw - (intOf i).toNat)
    case atStart => exact ⟨0, _, c + 1, Nat.zero_le _, rfl, H0.out⟩
    case round =>
      obtain ⟨k, mk, ck, hk, rfl, hst0⟩ := hrel
      have HS := Lib.hid hst0
      have HXr : Hid (Ctx wr t mb bm bw bt bo bl Aw nw cw ws A nh ch H who) := HX.out.mod hst0.mod H0.out.map
      clear hst0
      by_cases hlt : k < nw
      · have hkl : k < ws.length := by have := Hnw.out; omega
        obtain ⟨b, off, rfl, hb, hce⟩ := HXr.out.sw.2 (by omega)
        obtain ⟨e1, e2, e3, e4⟩ := hce k ws[k] (List.getElem?_eq_getElem hkl)
        obtain ⟨x1, x2, x3, x4, x5, x6⟩ := (may_iff _).1 (HW.out ws[k] (List.getElem_mem hkl))
        obtain ⟨x, hxe⟩ : ∃ x, ws[k] = x := ⟨_, rfl⟩
        have Hx : Hid (ws[k]? = some x) := by show _ = _; rw [List.getElem?_eq_getElem hkl, hxe]
        rw [hxe] at e1 e2 e3 e4 x1 x2 x3 x4 x5 x6
        clear hce hxe
        by_cases hw : x.who = a
        · obtain ⟨wo, rfl⟩ : ∃ wo : World, wo = wr := ⟨_, rfl⟩
          have hw' : (x.who != a) = false := by simp [hw]
          have Hw := Lib.hid hw
          have cxt : ∀ o, (wo.alloc o).cell? ⟨bt, 0, none⟩ = some (.pointer (some ⟨t, 0, none⟩)) := fun o => Ext.cell_some ((Ext.refl _).alloc o) HXr.out.ct
          have cxh : ∀ o, (wo.alloc o).cell? ⟨t, 0, none⟩ = some (.slice A nh ch) := fun o => Ext.cell_some ((Ext.refl _).alloc o) HXr.out.ch
          clear hw
          go_wp2_with fail
          obtain ⟨X, hX⟩ : ∃ X : Obj, X = .cells #[.int .i64 x.who, .int .i64 x.pos, .int .i64 x.num, .bool x.sh] 29 := ⟨_, rfl⟩
          have HXe := Lib.hid hX
          rw [← hX]
          clear hX
          go_loopw [38] (fun i wr => ∃ (j : Nat) (mj : Int → Int) (cj : Nat), j ≤ nh ∧ i = .int .i64 j ∧ St H ws who a mb c m (wo.alloc X) wr mj cj (mine H ws a (k + 1) + (nh - j) + k + 1) (fun b => Ahead H ws a k b ∨ ∃ y, y ∈ H.take j ∧ meetB x y = true ∧ y.who = b)) (fun i _ => nh - (intOf i).toNat)
          case atStart =>
            refine ⟨0, mk, ck, Nat.zero_le _, rfl, ((HS.out.ext ((Ext.refl _).alloc _)).on (Mod.refl _ _)).less ?_ ?_⟩
            · have := mine_step (H := H) (a := a) Hx.out
              rw [if_pos Hw.out] at this
              have := Hnh.out
              omega
            · rintro b (h | ⟨y, hy, _⟩)
              · exact h
              · simp at hy
          case round =>
            obtain ⟨j, mj, cj, hj, rfl, hst1⟩ := hrel
            have H1 := Lib.hid hst1
            have HXq : Hid (Ctx wr t mb bm bw bt bo bl _ nw cw ws A nh ch H who) := (HXr.out.mod (Ext.to_mod ((Ext.refl _).alloc X)) HS.out.map).mod hst1.mod (HS.out.map.mod ((Ext.refl _).alloc X) (fun f => f))
            have HMq : Hid (Mod (fun j => j = mb) (wo.alloc X) wr) := hst1.mod
            have hbx : wo.heap.size < wr.heap.size := by have := hst1.mod.size; simp at this; omega
            have HIx : Hid (IMap (wo.alloc X) mb ck mk) := HS.out.map.mod ((Ext.refl _).alloc X) (fun f => f)
            have HA1 : Hid (∀ i v, (#[.int .i64 x.who, .int .i64 x.pos, .int .i64 x.num, .bool x.sh] : Array Value)[i]? = some v → ∀ wz, Ext wr wz → wz.cell? ⟨wo.heap.size, i, none⟩ = some v) := fun i v hv wz he => Ext.cell_some he (HMq.out.cell_map HIx.out (by rw [HXe.out, cell_of_row _ _ i _ 29 (0, 0) (heap_alloc_new wo _)]; exact hv))
            clear hst1
            by_cases hlj : j < nh
            · have hjl : j < H.length := by have := Hnh.out; omega
              obtain ⟨b2, off2, rfl, hb2, hce⟩ := HXq.out.sh.2 (by omega)
              obtain ⟨f1, f2, f3, f4⟩ := hce j H[j] (List.getElem?_eq_getElem hjl)
              obtain ⟨y1, y2, y3, y4, y5, y6⟩ := (may_iff _).1 (HH.out H[j] (List.getElem_mem hjl))
              obtain ⟨y, hye⟩ : ∃ y, H[j] = y := ⟨_, rfl⟩
              have Hy : Hid (H[j]? = some y) := by show _ = _; rw [List.getElem?_eq_getElem hjl, hye]
              rw [hye] at f1 f2 f3 f4 y1 y2 y3 y4 y5 y6
              clear hce hye
              have ea : ∀ o, Ext wr (wr.alloc o) := fun o => (Ext.refl _).alloc o
              have g0 := HA1.out 0 _ rfl
              have g1 := HA1.out 1 _ rfl
              have g2 := HA1.out 2 _ rfl
              have g3 := HA1.out 3 _ rfl
              have go : ∀ wz, Ext wr wz → wz.cell? ⟨bo, 0, none⟩ = some (.int .i64 who) := fun wz he => Ext.cell_some he HXq.out.co
              have gl : ∀ wz, Ext wr wz → wz.cell? ⟨bl, 0, none⟩ = some (.func (.func 40) #[] #[.pointer (some ⟨bm, 0, none⟩), .pointer (some ⟨bw, 0, none⟩), .pointer (some ⟨bt, 0, none⟩), .pointer (some ⟨bo, 0, none⟩), .pointer (some ⟨bl, 0, none⟩)]) := fun wz he => Ext.cell_some he HXq.out.cl
              have HE : Hid (meetB x y = true → Edge H ws a y.who) := fun hm => ⟨k, x, y, Hx.out, Hw.out, .inl (List.mem_of_getElem? Hy.out), hm, rfl⟩
              go_wp2_with (first
                | (go_at_call 41; refine (meet_any _ _ _ _ _ _ _ _ _ (by omega) (by omega) (by omega) (by omega) (by omega) (by omega)).mono ?_; rintro e w2 ⟨rfl, hb2⟩; have e2 := (ea _).trans hb2; have z0 : w2.cell? ⟨wr.heap.size, 0, none⟩ = some (.int .i64 y.who) := hb2.cell_new 0)
                | (go_at_call 40; refine (ih.out y.who cj mj w2 (Hf.out _ (mine_pos Hx.out Hw.out) H1.out.gr) y1 y2 (HXq.out.mod (Ext.to_mod e2) H1.out.map) (H1.out.map.mod e2 (fun f => f)) H1.out.bnd (by have := H1.out.cnt; omega)).mono ?_; rintro e w3 ⟨r, m3, c3, rfl, h3⟩; have H3 := Lib.hid h3; clear h3; cases r))
              · rw [Exit.noGoto_ret]
                go_ret
                exact H1.out.post_true w (Hm1.out.trans ((HS.out.mod).trans (Ext.to_mod ((Ext.refl _).alloc X)) (fun _ _ h => h)) (fun _ _ h => h)) e2 (HE.out (by assumption)) (by assumption)
              · obtain ⟨hM3, hI3, hB3, hC3, hL3⟩ := H3.out
                go_roundw
                case rel =>
                  refine ⟨j + 1, m3, c3, by omega, by go_num, ((H1.out.less (left' := mine H ws a (k + 1) + (nh - (j + 1)) + k + 1 + 1) (by omega) (fun _ h => h)).next e2 (by assumption) hM3 hI3 hB3 hC3 hL3).less (Nat.le_refl _) ?_⟩
                  rintro b (h | ⟨z, hz, hmz, rfl⟩)
                  · exact .inl (.inl h)
                  · rcases mem_take_succ Hy.out hz with hz | rfl
                    · exact .inl (.inr ⟨z, hz, hmz, rfl⟩)
                    · exact .inr rfl
                case measure => simp [intOf]; omega
              · obtain ⟨hM3, hI3, hB3, hC3, hL3⟩ := H3.out
                rw [Exit.noGoto_ret]
                go_ret
                exact (H1.out.less (left' := mine H ws a (k + 1) + (nh - (j + 1)) + k + 1 + 1) (by omega) (fun _ h => h)).post_way w (Hm1.out.trans ((HS.out.mod).trans (Ext.to_mod ((Ext.refl _).alloc X)) (fun _ _ h => h)) (fun _ _ h => h)) e2 (HE.out (by assumption)) hM3 hI3 hB3 hC3 hL3
              · go_roundw
                case rel =>
                  refine ⟨j + 1, mj, cj, by omega, by go_num, (H1.out.ext e2).less (by omega) ?_⟩
                  have hno : meetB x y = false := by assumption
                  rintro b (h | ⟨z, hz, hmz, rfl⟩)
                  · exact .inl h
                  · rcases mem_take_succ Hy.out hz with hz | rfl
                    · exact .inr ⟨z, hz, hmz, rfl⟩
                    · rw [hno] at hmz; cases hmz
                case measure => simp [intOf]; omega
            · have gw := HXq.out.cw
              have H1e := H1
              clear H1
              obtain ⟨w5, rfl⟩ : ∃ w5 : World, w5 = wr := ⟨_, rfl⟩
              clear HA1 HXq HMq hbx
              go_wp2_with fail
              go_loopw [62] (fun i wq => ∃ (j2 : Nat) (mj2 : Int → Int) (cj2 : Nat), j2 ≤ k ∧ i = .int .i64 j2 ∧ St H ws who a mb c m (wo.alloc X) wq mj2 cj2 (mine H ws a (k + 1) + (k - j2) + 1) (fun b => Ahead H ws a k b ∨ (∃ y, y ∈ H ∧ meetB x y = true ∧ y.who = b) ∨ ∃ y, y ∈ (ws.take k).take j2 ∧ meetB x y = true ∧ y.who = b)) (fun i _ => k - (intOf i).toNat)
              case atStart =>
                refine ⟨0, mj, cj, Nat.zero_le _, rfl, H1e.out.less (by omega) ?_⟩
                have hjn : j = H.length := by have := Hnh.out; omega
                rintro b (h | ⟨y, hy, r⟩ | ⟨y, hy, _⟩)
                · exact .inl h
                · exact .inr ⟨y, by rw [hjn, List.take_length]; exact hy, r⟩
                · simp at hy
              case round =>
                obtain ⟨j, mj, cj, hj, rfl, hst1⟩ := hrel
                have H1 := Lib.hid hst1
                have HXq : Hid (Ctx wr t mb bm bw bt bo bl _ nw cw ws A nh ch H who) := (HXr.out.mod (Ext.to_mod ((Ext.refl _).alloc X)) HS.out.map).mod hst1.mod (HS.out.map.mod ((Ext.refl _).alloc X) (fun f => f))
                have HMq : Hid (Mod (fun j => j = mb) (wo.alloc X) wr) := hst1.mod
                have hbx : wo.heap.size < wr.heap.size := by have := hst1.mod.size; simp at this; omega
                have HIx : Hid (IMap (wo.alloc X) mb ck mk) := HS.out.map.mod ((Ext.refl _).alloc X) (fun f => f)
                have HA1 : Hid (∀ i v, (#[.int .i64 x.who, .int .i64 x.pos, .int .i64 x.num, .bool x.sh] : Array Value)[i]? = some v → ∀ wz, Ext wr wz → wz.cell? ⟨wo.heap.size, i, none⟩ = some v) := fun i v hv wz he => Ext.cell_some he (HMq.out.cell_map HIx.out (by rw [HXe.out, cell_of_row _ _ i _ 29 (0, 0) (heap_alloc_new wo _)]; exact hv))
                clear hst1
                by_cases hlj : j < k
                · have hjl : j < ws.length := by omega
                  obtain ⟨b2, off2, hbe, hb2, hce⟩ := HXq.out.sw.2 (by omega)
                  obtain ⟨rfl, rfl⟩ : b = b2 ∧ off = off2 := by injection hbe with hbe; injection hbe with h1 h2; exact ⟨h1, h2⟩
                  clear hbe
                  obtain ⟨f1, f2, f3, f4⟩ := hce j ws[j] (List.getElem?_eq_getElem hjl)
                  obtain ⟨y1, y2, y3, y4, y5, y6⟩ := (may_iff _).1 (HW.out ws[j] (List.getElem_mem hjl))
                  obtain ⟨y, hye⟩ : ∃ y, ws[j] = y := ⟨_, rfl⟩
                  have Hy : Hid (ws[j]? = some y) := by show _ = _; rw [List.getElem?_eq_getElem hjl, hye]
                  rw [hye] at f1 f2 f3 f4 y1 y2 y3 y4 y5 y6
                  clear hce hye
                  have ea : ∀ o, Ext wr (wr.alloc o) := fun o => (Ext.refl _).alloc o
                  have g0 := HA1.out 0 _ rfl
                  have g1 := HA1.out 1 _ rfl
                  have g2 := HA1.out 2 _ rfl
                  have g3 := HA1.out 3 _ rfl
                  have go : ∀ wz, Ext wr wz → wz.cell? ⟨bo, 0, none⟩ = some (.int .i64 who) := fun wz he => Ext.cell_some he HXq.out.co
                  have gl : ∀ wz, Ext wr wz → wz.cell? ⟨bl, 0, none⟩ = some (.func (.func 40) #[] #[.pointer (some ⟨bm, 0, none⟩), .pointer (some ⟨bw, 0, none⟩), .pointer (some ⟨bt, 0, none⟩), .pointer (some ⟨bo, 0, none⟩), .pointer (some ⟨bl, 0, none⟩)]) := fun wz he => Ext.cell_some he HXq.out.cl
                  have HE : Hid (meetB x y = true → Edge H ws a y.who) := fun hm => ⟨k, x, y, Hx.out, Hw.out, .inr (List.mem_of_getElem? ((List.getElem?_take_of_lt hlj).trans Hy.out)), hm, rfl⟩
                  go_wp2_with (first
                    | (go_at_call 41; refine (meet_any _ _ _ _ _ _ _ _ _ (by omega) (by omega) (by omega) (by omega) (by omega) (by omega)).mono ?_; rintro e w2 ⟨rfl, hb2⟩; have e2 := (ea _).trans hb2; have z0 : w2.cell? ⟨wr.heap.size, 0, none⟩ = some (.int .i64 y.who) := hb2.cell_new 0)
                    | (go_at_call 40; refine (ih.out y.who cj mj w2 (Hf.out _ (mine_pos Hx.out Hw.out) H1.out.gr) y1 y2 (HXq.out.mod (Ext.to_mod e2) H1.out.map) (H1.out.map.mod e2 (fun f => f)) H1.out.bnd (by have := H1.out.cnt; omega)).mono ?_; rintro e w3 ⟨r, m3, c3, rfl, h3⟩; have H3 := Lib.hid h3; clear h3; cases r))
                  · rw [Exit.noGoto_ret]
                    go_ret
                    exact H1.out.post_true w (Hm1.out.trans ((HS.out.mod).trans (Ext.to_mod ((Ext.refl _).alloc X)) (fun _ _ h => h)) (fun _ _ h => h)) e2 (HE.out (by assumption)) (by assumption)
                  · obtain ⟨hM3, hI3, hB3, hC3, hL3⟩ := H3.out
                    go_roundw
                    case rel =>
                      refine ⟨j + 1, m3, c3, by omega, by go_num, ((H1.out.less (left' := mine H ws a (k + 1) + (k - (j + 1)) + 1 + 1) (by omega) (fun _ h => h)).next e2 (by assumption) hM3 hI3 hB3 hC3 hL3).less (Nat.le_refl _) ?_⟩
                      rintro b (h | h | ⟨z, hz, hmz, rfl⟩)
                      · exact .inl (.inl h)
                      · exact .inl (.inr (.inl h))
                      · rcases mem_take_succ ((List.getElem?_take_of_lt hlj).trans Hy.out) hz with hz | rfl
                        · exact .inl (.inr (.inr ⟨z, hz, hmz, rfl⟩))
                        · exact .inr rfl
                    case measure => simp [intOf]; omega
                  · obtain ⟨hM3, hI3, hB3, hC3, hL3⟩ := H3.out
                    rw [Exit.noGoto_ret]
                    go_ret
                    exact (H1.out.less (left' := mine H ws a (k + 1) + (k - (j + 1)) + 1 + 1) (by omega) (fun _ h => h)).post_way w (Hm1.out.trans ((HS.out.mod).trans (Ext.to_mod ((Ext.refl _).alloc X)) (fun _ _ h => h)) (fun _ _ h => h)) e2 (HE.out (by assumption)) hM3 hI3 hB3 hC3 hL3
                  · go_roundw
                    case rel =>
                      refine ⟨j + 1, mj, cj, by omega, by go_num, (H1.out.ext e2).less (by omega) ?_⟩
                      have hno : meetB x y = false := by assumption
                      rintro b (h | h | ⟨z, hz, hmz, rfl⟩)
                      · exact .inl h
                      · exact .inr (.inl h)
                      · rcases mem_take_succ ((List.getElem?_take_of_lt hlj).trans Hy.out) hz with hz | rfl
                        · exact .inr (.inr ⟨z, hz, hmz, rfl⟩)
                        · rw [hno] at hmz; cases hmz
                    case measure => simp [intOf]; omega
                · go_wp2_with fail
                  go_roundw
                  case rel =>
                    have hjk : j = k := by omega
                    refine ⟨k + 1, mj, cj, by omega, by go_num, (H1.out.rebase ((HS.out.mod).trans (Ext.to_mod ((Ext.refl _).alloc X)) (fun _ _ h => h))).less (by omega) ?_⟩
                    rintro b ⟨i, hi, x', y, hx', r1, r2, r3, r4⟩
                    by_cases hik : i = k
                    · subst hik
                      rw [Hx.out] at hx'
                      obtain rfl := Option.some.inj hx'
                      rcases r2 with r2 | r2
                      · exact .inr (.inl ⟨y, r2, r3, r4⟩)
                      · exact .inr (.inr ⟨y, by rw [hjk, List.take_take, Nat.min_self]; exact r2, r3, r4⟩)
                    · exact .inl ⟨i, by omega, x', y, hx', r1, r2, r3, r4⟩
                  case measure => simp [intOf]; omega
        · have hw' : (x.who != a) = true := by simpa using hw
          have Hw := Lib.hid hw
          clear hw
          go_wp2_with fail
          go_roundw
          case rel =>
            refine ⟨k + 1, mk, ck, by omega, by go_num, ((HS.out.ext ((Ext.refl _).alloc _))).less ?_ ?_⟩
            · have := mine_step (H := H) (a := a) Hx.out
              omega
            · rintro b ⟨i, hi, x', y, hx', r1, r2⟩
              by_cases hik : i = k
              · subst hik
                rw [Hx.out] at hx'
                obtain rfl := Option.some.inj hx'
                exact absurd r1 Hw.out
              · exact ⟨i, by omega, x', y, hx', r1, r2⟩
          case measure => simp [intOf]; omega
      · go_wp2_with fail
        rw [Exit.noGoto_ret]
        go_ret
        refine HS.out.post_false w Hm1.out (by have := Hnseen.out; omega) ?_
        rintro b ⟨i, x, y, hx, r⟩
        have := (List.getElem?_eq_some_iff.1 hx).1
        have := Hnw.out
        exact ⟨i, by omega, x, y, hx, r⟩
end Go.Proofs.Ytpjgfkdnjkfnfaa
