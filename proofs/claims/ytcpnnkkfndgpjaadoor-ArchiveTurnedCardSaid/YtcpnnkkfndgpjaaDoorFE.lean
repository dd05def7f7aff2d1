/- The law's works: an item there and back. -/
import Derived.Test.YtcpnnkkfndgpjaaDoorFD
import Derived.Lib.SlBytesConst
namespace Go.Proofs.YtcpnnkkfndgpjaaDoor
open Go.RowKit

theorem Sp.real_ok : Sp.real.ok = okP := rfl
def xW : It := ⟨[97], 0, [120]⟩
theorem okP_a : okP [97] [] = true := by decide +kernel
theorem bad_xW : badAt Sp.real [] 0 [xW] = none := by
  have h : verdict Sp.real [] xW = 0 := by
    unfold verdict
    rw [if_neg (by show ¬ 4194304 < 1; decide), if_neg]
    rintro (h | h)
    · exact absurd h (by decide)
    · have e : Sp.real.ok xW.path [] = okP [97] [] := rfl
      rw [e, okP_a] at h; cases h
  unfold badAt
  rw [if_pos h]
  rfl
theorem encs_len {Z : Sp} (l : List It) : (encs Z l).length = 21 * l.length + szN l := by
  induction l with
  | nil => rfl
  | cons x l ih => rw [encs_cons, List.length_append, enc_len, ih]; simp [szN, szI]; omega
theorem allB_len {Z : Sp} (l : List It) : (allB Z l).length = 17 + 21 * l.length + szN l := by
  unfold allB
  simp only [List.length_append, beN_len, encs_len, endB, List.length_cons, headB, List.length_nil]
  omega
theorem write_xW : writeN Sp.real [xW] = (allB Sp.real [xW], 0, 0) := writeN_of _ bad_xW (by decide)
theorem ItMine.fed {w0 w w' : World} {v : Value} {vs : List IV} {r n c : Nat} {A : Option Addr} {x : Rd} {t : Bool} (h : ItMine w0 w v vs) (hr : RdAt w r A n c x t) (hm : Mod (fun k => k = r ∨ (Value.slice A n c).ownBlock = some k) w w')
    (hd : ∀ i ∈ vs, ∀ k, i.dat.ownBlock = some k → (Value.slice A n c).ownBlock ≠ some k) : ItMine w0 w' v vs :=
  h.mod hm (fun k hk hs => by
    obtain ⟨cur, h3⟩ := h.row.ty hk
    rcases hs with rfl | hs
    · rw [hr.blk] at h3; injection h3 with h3; injection h3 with _ h3; exact absurd h3 (by decide)
    · obtain ⟨cur', h4⟩ := hr.own.ty hs
      rw [h4] at h3; injection h3 with h3; injection h3 with _ h3; exact absurd h3 (by decide)) (fun i hi k hk hs => by
    rcases hs with rfl | hs
    · obtain ⟨cur, h3⟩ := (h.dat i hi).ty hk
      rw [hr.blk] at h3; injection h3 with h3; injection h3 with _ h3; exact absurd h3 (by decide)
    · exact hd i hi k hk hs)
theorem Rd.new_fine : Rd.new.Fine := ⟨fun h => (by cases h), (by decide), (by decide)⟩
theorem done_tear {Z : Sp} {q : Rd} {b : UInt8} {l : Bs} (hb : q.begun = true) (hd : q.done = true) : stp Z (q.on (b :: l)) = .tear := by
  unfold stp
  have h1 : (q.on (b :: l)).begun = true := hb
  have h2 : (q.on (b :: l)).done = true := hd
  have h3 : (q.on (b :: l)).b ≠ [] := by show q.b ++ b :: l ≠ []; simp
  rw [if_neg (by simp [h1]), if_pos h2, if_neg h3]
set_option maxRecDepth 20000 in
set_option maxHeartbeats 4000000 in
theorem works_any (m : Int) (w : World) (hm : w.cell? ⟨0, 0, none⟩ = some (.int .i64 m)) : Calls Tryd.prog 10 #[] w fun e w' => e = .returned (.bool true) ∧ Ext w w' := by
  have HM : Hid (∀ wx, Ext w wx → wx.cell? ⟨0, 0, none⟩ = some (.int .i64 m)) := Lib.hid (fun wx hx => (hx.cell (World.block_lt_of_cell? w _ hm)).trans hm)
  have Hp0 : Hid (0 < w.heap.size) := Lib.hid (World.block_lt_of_cell? w _ hm)
  clear hm
  have kc := fun (w : World) (C : Array Value) (n c : Nat) => Lib.run_convert_bytes_const (P := Tryd.prog) w 26 5 C n c Tryd.underlying26 Tryd.underlying5
  go_enter Tryd.func10, Tryd.ntmps10
  go_wp2_with fail
  clear kc
  have HX2 : Hid (Ext w ((w.alloc (.cells #[.int .u8 120] 5 (1, 2))).alloc (.cells #[.string ⟨#[97]⟩, .int .i8 0, .slice (some ⟨w.heap.size, 0, none⟩) 1 1] 50))) := Lib.hid (((Ext.refl _).alloc _).alloc _)
  have HS2 : Hid (ItSl ((w.alloc (.cells #[.int .u8 120] 5 (1, 2))).alloc (.cells #[.string ⟨#[97]⟩, .int .i8 0, .slice (some ⟨w.heap.size, 0, none⟩) 1 1] 50)) (some ⟨w.heap.size + 1, 0, none⟩) 1 [xW]) := Lib.hid (by
    have e1 : (w.alloc (.cells #[.int .u8 120] 5 (1, 2))).heap.size = w.heap.size + 1 := by simp
    have hn := heap_alloc_new (w.alloc (.cells #[.int .u8 120] 5 (1, 2))) (.cells #[.string ⟨#[97]⟩, .int .i8 0, .slice (some ⟨w.heap.size, 0, none⟩) 1 1] 50)
    have ho : ((w.alloc (.cells #[.int .u8 120] 5 (1, 2))).alloc (.cells #[.string ⟨#[97]⟩, .int .i8 0, .slice (some ⟨w.heap.size, 0, none⟩) 1 1] 50)).heap[w.heap.size]? = some (.cells #[.int .u8 120] 5 (1, 2)) := by
      rw [Below.heap_alloc _ _ _ (by rw [e1]; omega)]; exact heap_alloc_new w _
    rw [e1] at hn
    refine ⟨rfl, fun _ => ⟨_, 0, rfl, by simp, fun k x hk => ?_⟩⟩
    rcases k with _ | k
    · cases hk
      refine ⟨cell_of_row _ _ 0 _ 50 (0, 0) hn, cell_of_row _ _ 1 _ 50 (0, 0) hn, some ⟨w.heap.size, 0, none⟩, 1, cell_of_row _ _ 2 _ 50 (0, 0) hn, rfl, fun _ => ⟨_, 0, rfl, by simp; omega, fun j ch hj => ?_⟩⟩
      rcases j with _ | j
      · cases hj; exact cell_of_row _ _ 0 _ 5 (1, 2) ho
      · cases hj
    · cases hk)
  obtain ⟨w2, hw2⟩ : ∃ W, (w.alloc (.cells #[.int .u8 120] 5 (1, 2))).alloc (.cells #[.string ⟨#[97]⟩, .int .i8 0, .slice (some ⟨w.heap.size, 0, none⟩) 1 1] 50) = W := ⟨_, rfl⟩
  rw [hw2] at HX2 HS2 ⊢
  clear hw2
  refine (write_any Sp.real Sp.real_ok _ 1 1 [xW] m w2 HS2.out (fun x hx => by obtain rfl := List.mem_singleton.1 hx; exact ⟨by decide, by decide⟩) (by decide) (by decide) (HM.out _ HX2.out)).mono ?_
  rintro e w3 ⟨v, rfl, hmb⟩
  rw [write_xW] at hmb ⊢
  have hlen : (allB Sp.real [xW]).length = 40 := by rw [allB_len]; rfl
  obtain ⟨L, hL⟩ : ∃ L, allB Sp.real [xW] = L := ⟨_, rfl⟩
  rw [hL] at hlen hmb ⊢
  have HL := Lib.hid hL
  have HX3 := Lib.hid (HX2.out.trans hmb.1)
  obtain ⟨A, c, rfl, hby⟩ := hmb.form
  rw [hlen] at hby ⊢
  have Hby := Lib.hid hby
  clear hmb hby hL hlen HS2
  go_wp2_with fail
  refine (new_any w3).mono ?_
  rintro e w4 ⟨rfl, hx4, hr4⟩
  have HX4 := Lib.hid (HX3.out.trans hx4)
  have HR4 := Lib.hid hr4
  have Hb4 := Lib.hid (Hby.out.ext hx4)
  obtain ⟨r, hr⟩ : ∃ r, w3.heap.size = r := ⟨_, rfl⟩
  have hr0 : 0 < r := by have h1 := Hp0.out; have h2 := HX3.out.size; omega
  have hrge : w.heap.size ≤ r := by have h2 := HX3.out.size; omega
  rw [hr] at HR4 ⊢
  clear hx4 hr4 hr
  go_wp2_with fail
  refine (feed_any Sp.real Sp.real_ok r none A 0 0 40 c Rd.new L m w4 HR4.out Rd.new_fine Hb4.out (by decide) (HM.out _ HX4.out) (by simp [Value.ownBlock])).mono ?_
  intro e w5 hp
  obtain ⟨q, hq1, hq2, hq3, hq4⟩ := read_all Sp.real bad_xW (by decide)
  rw [HL.out] at hq1
  obtain ⟨vs, LA, lc, A5, n5, c5, hvs, rfl, hit, hmd, hr5, hf5, -, hown, hdat⟩ := hp.good hq1
  obtain ⟨D, dc, rfl⟩ : ∃ D dc, vs = [⟨xW, D, dc⟩] := by
    rcases vs with _ | ⟨⟨x, D, dc⟩, _ | ⟨b, vs⟩⟩
    · cases hvs
    · have hx : x = xW := by simpa using hvs
      exact ⟨D, dc, by rw [hx]⟩
    · simp at hvs
  have hn5 : n5 = 0 := by rw [hr5.len, hq4]; rfl
  have HX5 : Hid (Ext w w5) := Lib.hid (HX4.out.fresh hmd (fun i h => by rcases h with h | h; omega; simp [Value.ownBlock] at h))
  have HR5 := Lib.hid hr5
  have HT5 := Lib.hid hit
  have HF5 := Lib.hid hf5
  have Hq2 := Lib.hid hq2
  have Hq3 := Lib.hid hq3
  have Hdat := Lib.hid hdat
  have hl1 : [(⟨xW, D, dc⟩ : IV)].length = 1 := rfl
  rw [hl1] at HT5 ⊢
  have h50 : ∀ k, (Value.slice A5 n5 c5).ownBlock = some k → w.heap.size ≤ k := fun k hk => by
    rcases hown k hk with h | h
    · simp [Value.ownBlock] at h
    · have h1 := Hp0.out; have h2 := HX4.out.size; omega
  have H50 := Lib.hid h50
  clear hp hq1 hq2 hq3 hq4 hvs hit hmd hr5 hf5 hown hdat hl1 h50
  go_wp2_with fail
  have HX6 : Hid (Ext w5 (w5.alloc (.cells #[.int .u8 0] 5))) := (Ext.refl _).alloc _
  refine (feed_any Sp.real Sp.real_ok r A5 _ n5 c5 1 1 q [0] m (w5.alloc (.cells #[.int .u8 0] 5)) (HR5.out.ext HX6.out) HF5.out (one_byte w5 0) (by omega) (HM.out _ (HX5.out.trans HX6.out)) (fun e => by have h1 := H50.out 0 e; have h2 := Hp0.out; omega)).mono ?_
  intro e w7 hp
  obtain ⟨vs2, LA2, lc2, y, hvs2, rfl, hit2, hmd2, hr7, hy⟩ := hp.bad (.tear (done_tear Hq3.out Hq2.out))
  have hv0 : vs2 = [] := by simpa using hvs2
  subst hv0
  have hT7 := (HT5.out.ext HX6.out).fed (HR5.out.ext HX6.out) hmd2 Hdat.out
  have HX7 : Hid (Ext w w7) := Lib.hid ((HX5.out.trans HX6.out).fresh hmd2 (fun i h => by
    rcases h with h | h
    · omega
    · exact H50.out i h))
  have HR7 := Lib.hid hr7
  have HY := Lib.hid hy
  obtain ⟨g, off, rfl, hg⟩ : ∃ g off, LA = some ⟨g, off, none⟩ ∧ g < w7.heap.size := by
    obtain ⟨A', cap, hv, -, hp⟩ := hT7.row.form
    injection hv with h1; subst h1; exact hp (Nat.lt_succ_self 0)
  have c0 : w7.cell? ⟨g, off, none⟩ = some (.string ⟨#[97]⟩) := hT7.row.cells rfl 0 (.string ⟨#[97]⟩) rfl
  have c2 : w7.cell? ⟨g, off + 2, none⟩ = some (.slice D 1 dc) := hT7.row.cells rfl 2 (.slice D 1 dc) rfl
  have hcv : (convert 26 9 (.slice D 1 dc)).run Tryd.prog w7 = .ok (.string ⟨#[120]⟩) w7 := run_bytes_string ((hT7.dat _ (List.mem_singleton.2 rfl)).bytes rfl) dc
  clear hp hvs2 hit2 hmd2 hr7 hy hT7
  go_wp2_with fail
  refine (done_any r 0 0 none y true w7 HR7.out).mono ?_
  rintro e w8 ⟨rfl, rfl⟩
  rw [HY.out]
  go_wp2_with fail
  go_ret
  exact ⟨rfl, HX7.out⟩
end Go.Proofs.YtcpnnkkfndgpjaaDoor
