/- The next thing that is whole: step, whatever came. -/
import Derived.Test.YtcpnnkkfndgpjaaDoorRD
namespace Go.Proofs.YtcpnnkkfndgpjaaDoor
open Go.RowKit

set_option maxRecDepth 20000 in
set_option maxHeartbeats 2000000 in
theorem step_empty (Z : Sp) (r : Nat) (A : Option Addr) (n c : Nat) (x : Rd) (w : World) (hr : RdAt w r A n c x false) (hb : x.begun = true) (hd : x.done = false) (hk : x.b = []) :
    Calls Tryd.prog 38 #[.pointer (some ⟨r, 0, none⟩)] w (StepPost Z x r A n c w) := by
  have HR := Lib.hid hr
  obtain ⟨d0, d1, d2, d3, d4, d5, d6, f0⟩ := hr.cells
  rw [hb] at d2
  rw [hd] at d6
  have hn : n = 0 := by rw [hr.len, hk]; rfl
  have hrw : r < w.heap.size := hr.lt
  have HX1 : Hid (Ext w (w.alloc (.cells #[.string ⟨#[]⟩, .int .i8 0, .slice none 0 0] 50))) := (Ext.refl _).alloc _
  have HI1 : Hid (ItAt (w.alloc (.cells #[.string ⟨#[]⟩, .int .i8 0, .slice none 0 0] 50)) w.heap.size (.string ⟨#[]⟩) 0 (.slice none 0 0)) := Lib.hid (heap_alloc_new w _)
  have hs : Hid (stp Z x = .stop) := Lib.hid (stp_empty hb hd hk)
  subst hn
  clear hr hb hd f0 hk
  go_enter Tryd.func38, Tryd.ntmps38
  go_wp2_with fail
  go_step3
  go_wp2_with fail
  rw [Exit.noGoto_ret]
  obtain ⟨q0, q1, q2, -⟩ := HI1.out.cells
  exact bodyPost_ret (v := .tuple #[.agg #[.string ⟨#[]⟩, .int .i8 0, .slice none 0 0], .bool false]) (by simp [results, Tryd.results38, go_sem, q0, q1, q2]) rfl (StepPost.stop (HR.out.ext HX1.out) (Mod.ext_r HX1.out) hs.out)
theorem step_begun (Z : Sp) (hZ : Z.ok = okP) (r : Nat) (A : Option Addr) (n c : Nat) (x : Rd) (m : Int) (w : World) (hr : RdAt w r A n c x false) (hb : x.begun = true) (hd : x.done = false) (hn : n ≤ 1073741824) (hm : w.cell? ⟨0, 0, none⟩ = some (.int .i64 m)) (hi : x.items ≤ 1000000) (hsum : x.sum < 18446744073709551616) :
    Calls Tryd.prog 38 #[.pointer (some ⟨r, 0, none⟩)] w (StepPost Z x r A n c w) := by
  cases hk : x.b with
  | nil => exact step_empty Z r A n c x w hr hb hd hk
  | cons k t =>
    by_cases hk2 : k = 255
    · subst hk2; exact step_end Z r A n c x t w hr hb hd hk hn hi hsum
    · exact step_item Z hZ r A n c x k t m w hr hb hd hk hk2 hn hm hi hsum
theorem RdAt.ne0 {w : World} {r n c : Nat} {A : Option Addr} {x : Rd} {torn : Bool} {m : Int} (h : RdAt w r A n c x torn) (hm : w.cell? ⟨0, 0, none⟩ = some (.int .i64 m)) : r ≠ 0 := fun e => by
  subst e
  have h1 := h.cells.1
  rw [hm] at h1
  cases h1
/-- The first k bytes are the head's. -/
def HeadTo (b : Bs) (k : Nat) : Prop := ∀ j, j < k → j < 4 → b[j]? = headB[j]?
theorem HeadTo.succ {b : Bs} {k : Nat} {c d : UInt8} (h : HeadTo b k) (hb : b[k]? = some c) (hd : headB[k]? = some d) (e : c = d) : HeadTo b (k + 1) := fun j h1 h2 => by
  rcases Nat.lt_or_ge j k with h3 | h3
  · exact h j h3 h2
  · obtain rfl : j = k := by omega
    rw [hb, hd, e]
theorem HeadTo.beyond {b : Bs} {k : Nat} (h : HeadTo b k) (h4 : 4 ≤ k) : HeadTo b (k + 1) := fun j h1 h2 => h j (by omega) h2
theorem headTo_all {b : Bs} (h : HeadTo b b.length) : headOk b = true := by
  unfold headOk
  rw [beq_iff_eq]
  apply List.ext_getElem?
  intro i
  rw [List.getElem?_take, List.getElem?_take]
  by_cases h4 : i < 4
  · rw [if_pos h4]
    by_cases hi : i < b.length
    · rw [if_pos hi]; exact h i hi h4
    · rw [if_neg hi, List.getElem?_eq_none (by omega)]
  · rw [if_neg h4]
    split
    · rw [List.getElem?_eq_none (by show 4 ≤ i; omega)]
    · rfl
theorem headOk_no {b : Bs} {k : Nat} {c d : UInt8} (hk : k < 4) (hb : b[k]? = some c) (hd : headB[k]? = some d) (h : c ≠ d) : headOk b = false := by
  cases hh : headOk b with
  | false => rfl
  | true =>
    unfold headOk at hh
    rw [beq_iff_eq] at hh
    have h1 := congrArg (fun l => l[k]?) hh
    simp only [List.getElem?_take, if_pos hk] at h1
    have h2 := (List.getElem?_eq_some_iff.1 hb).1
    rw [if_pos h2, hb, hd] at h1
    injection h1 with h1
    exact absurd h1 h
theorem stp_first {Z : Sp} {x : Rd} (hb : x.begun = false) (hh : headOk x.b = true) (h4 : 4 ≤ x.b.length) : stp Z x = .go none { x with begun := true, b := x.b.drop 4, sum := fnv Z x.sum (x.b.take 4) } := by
  unfold stp; rw [if_pos hb, if_pos hh, if_pos h4]
theorem stp_short {Z : Sp} {x : Rd} (hb : x.begun = false) (hh : headOk x.b = true) (h4 : ¬ 4 ≤ x.b.length) : stp Z x = .stop := by
  unfold stp; rw [if_pos hb, if_pos hh, if_neg h4]
theorem stp_nohead {Z : Sp} {x : Rd} (hb : x.begun = false) (hh : headOk x.b = false) : stp Z x = .tear := by
  unfold stp; rw [if_pos hb, if_neg (by simp [hh])]
set_option maxRecDepth 20000 in
set_option maxHeartbeats 4000000 in
theorem step_first (Z : Sp) (hZ : Z.ok = okP) (r : Nat) (A : Option Addr) (n c : Nat) (x : Rd) (m : Int) (w : World) (hr : RdAt w r A n c x false) (hb : x.begun = false) (hd : x.done = false) (hn : n ≤ 1073741824) (hm : w.cell? ⟨0, 0, none⟩ = some (.int .i64 m)) (hi : x.items ≤ 1000000) (hsum : x.sum < 18446744073709551616) :
    Calls Tryd.prog 38 #[.pointer (some ⟨r, 0, none⟩)] w (StepPost Z x r A n c w) := by
  have HR := Lib.hid hr
  have HM := Lib.hid hm
  have HSum : Hid (True ∧ x.sum < 18446744073709551616) := ⟨trivial, hsum⟩
  clear hsum
  obtain ⟨d0, d1, d2, d3, d4, d5, d6, f0⟩ := hr.cells
  rw [hb] at d2
  rw [hd] at d6
  have Hlen := Lib.hid hr.len
  have hrw : r < w.heap.size := hr.lt
  have hm0 : w.heap.size ≠ r := by omega
  have Hb := Lib.hid hb
  have Hd := Lib.hid hd
  have HX1 : Hid (Ext w (w.alloc (.cells #[.string ⟨#[]⟩, .int .i8 0, .slice none 0 0] 50))) := (Ext.refl _).alloc _
  have HI1 : Hid (ItAt (w.alloc (.cells #[.string ⟨#[]⟩, .int .i8 0, .slice none 0 0] 50)) w.heap.size (.string ⟨#[]⟩) 0 (.slice none 0 0)) := Lib.hid (heap_alloc_new w _)
  have HBy : Hid (BySl (w.alloc (.cells #[.string ⟨#[]⟩, .int .i8 0, .slice none 0 0] 50)) A n x.b) := Lib.hid (hr.bytes.ext HX1.out)
  clear hr hb hd f0 hm
  go_enter Tryd.func38, Tryd.ntmps38
  go_wp2_with fail
  refine wp_scope_ahead 0 (by rfl) ?_
  go_wp2_with fail
  refine wp_goto ?_
  refine ⟨rfl, ?_⟩
  obtain ⟨w1, hw1⟩ : ∃ W, w.alloc (.cells #[.string ⟨#[]⟩, .int .i8 0, .slice none 0 0] 50) = W := ⟨_, rfl⟩
  rw [hw1] at HX1 HI1 HBy ⊢
  clear hw1
  obtain ⟨e0, e1, e2, e3, e4, e5, e6, ef⟩ := (HR.out.ext HX1.out).cells
  have ef2 := ef 2
  clear ef
  go_wp2_with fail
  have s0 : ((⟨#[77, 84, 65, 49]⟩ : ByteArray)[0]'(by decide)).toNat = 77 := rfl
  have s1 : ((⟨#[77, 84, 65, 49]⟩ : ByteArray)[1]'(by decide)).toNat = 84 := rfl
  have s2 : ((⟨#[77, 84, 65, 49]⟩ : ByteArray)[2]'(by decide)).toNat = 65 := rfl
  have s3 : ((⟨#[77, 84, 65, 49]⟩ : ByteArray)[3]'(by decide)).toNat = 49 := rfl
  go_loop [46] (fun i => ∃ k : Nat, k ≤ n ∧ i = .int .i64 (k : Int) ∧ HeadTo x.b k) (fun i => n - (intOf i).toNat)
  case atStart => exact ⟨0, Nat.zero_le _, rfl, fun j h => absurd h (by omega)⟩
  case round =>
    obtain ⟨k, hk, rfl, hh⟩ := hrel
    have HH := Lib.hid hh
    clear hh
    by_cases hlt : k < n
    · obtain ⟨b, off, ch, rfl, -, hck, k0⟩ := HBy.out.at hlt
      have c0 := k0 _ (Ext.refl _)
      have Hck := Lib.hid hck
      clear k0 hck
      by_cases hk4 : 4 ≤ k
      · have hk4' : (4 : Int) ≤ (k : Int) := by omega
        have HH2 : Hid (HeadTo x.b (k + 1)) := Lib.hid (HH.out.beyond hk4)
        go_wp2_with fail
        refine (must_yes _).mono ?_
        rintro e w2 ⟨rfl, rfl⟩
        go_wp2_with fail
        go_round
        case rel => exact ⟨k + 1, by omega, by go_num, HH2.out⟩
        case measure => simp [intOf]; omega
      · have hk5 : k = 0 ∨ k = 1 ∨ k = 2 ∨ k = 3 := by omega
        clear hk4
        rcases hk5 with rfl | rfl | rfl | rfl
        · rw [Nat.add_zero] at c0
          by_cases hc : ch = 77
          · have HH2 : Hid (HeadTo x.b (0 + 1)) := Lib.hid (HH.out.succ Hck.out rfl hc)
            have hq : ((ch.toNat : Int) == 77) = true := by rw [hc]; rfl
            clear hc
            go_wp2_with fail
            refine (must_yes _).mono ?_
            rintro e w2 ⟨rfl, rfl⟩
            go_wp2_with fail
            go_round
            case rel => exact ⟨0 + 1, by omega, by go_num, HH2.out⟩
            case measure => simp [intOf]; omega
          · have hq : ((ch.toNat : Int) == 77) = false := beq_eq_false_iff_ne.2 (fun e => hc (UInt8.toNat_inj.1 (show ch.toNat = 77 by omega)))
            have Hs : Hid (stp Z x = .tear) := Lib.hid (stp_nohead Hb.out (headOk_no (k := 0) (by decide) Hck.out rfl hc))
            clear hc
            go_wp2_with fail
            refine (must_no _).mono ?_
            rintro e w2 ⟨rfl, rfl⟩
            exact ⟨rfl, StepPost.tear (HR.out.ext HX1.out) (Mod.ext_r HX1.out) Hs.out⟩
        · skip
          by_cases hc : ch = 84
          · have HH2 : Hid (HeadTo x.b (1 + 1)) := Lib.hid (HH.out.succ Hck.out rfl hc)
            have hq : ((ch.toNat : Int) == 84) = true := by rw [hc]; rfl
            clear hc
            go_wp2_with fail
            refine (must_yes _).mono ?_
            rintro e w2 ⟨rfl, rfl⟩
            go_wp2_with fail
            go_round
            case rel => exact ⟨1 + 1, by omega, by go_num, HH2.out⟩
            case measure => simp [intOf]; omega
          · have hq : ((ch.toNat : Int) == 84) = false := beq_eq_false_iff_ne.2 (fun e => hc (UInt8.toNat_inj.1 (show ch.toNat = 84 by omega)))
            have Hs : Hid (stp Z x = .tear) := Lib.hid (stp_nohead Hb.out (headOk_no (k := 1) (by decide) Hck.out rfl hc))
            clear hc
            go_wp2_with fail
            refine (must_no _).mono ?_
            rintro e w2 ⟨rfl, rfl⟩
            exact ⟨rfl, StepPost.tear (HR.out.ext HX1.out) (Mod.ext_r HX1.out) Hs.out⟩
        · skip
          by_cases hc : ch = 65
          · have HH2 : Hid (HeadTo x.b (2 + 1)) := Lib.hid (HH.out.succ Hck.out rfl hc)
            have hq : ((ch.toNat : Int) == 65) = true := by rw [hc]; rfl
            clear hc
            go_wp2_with fail
            refine (must_yes _).mono ?_
            rintro e w2 ⟨rfl, rfl⟩
            go_wp2_with fail
            go_round
            case rel => exact ⟨2 + 1, by omega, by go_num, HH2.out⟩
            case measure => simp [intOf]; omega
          · have hq : ((ch.toNat : Int) == 65) = false := beq_eq_false_iff_ne.2 (fun e => hc (UInt8.toNat_inj.1 (show ch.toNat = 65 by omega)))
            have Hs : Hid (stp Z x = .tear) := Lib.hid (stp_nohead Hb.out (headOk_no (k := 2) (by decide) Hck.out rfl hc))
            clear hc
            go_wp2_with fail
            refine (must_no _).mono ?_
            rintro e w2 ⟨rfl, rfl⟩
            exact ⟨rfl, StepPost.tear (HR.out.ext HX1.out) (Mod.ext_r HX1.out) Hs.out⟩
        · skip
          by_cases hc : ch = 49
          · have HH2 : Hid (HeadTo x.b (3 + 1)) := Lib.hid (HH.out.succ Hck.out rfl hc)
            have hq : ((ch.toNat : Int) == 49) = true := by rw [hc]; rfl
            clear hc
            go_wp2_with fail
            refine (must_yes _).mono ?_
            rintro e w2 ⟨rfl, rfl⟩
            go_wp2_with fail
            go_round
            case rel => exact ⟨3 + 1, by omega, by go_num, HH2.out⟩
            case measure => simp [intOf]; omega
          · have hq : ((ch.toNat : Int) == 49) = false := beq_eq_false_iff_ne.2 (fun e => hc (UInt8.toNat_inj.1 (show ch.toNat = 49 by omega)))
            have Hs : Hid (stp Z x = .tear) := Lib.hid (stp_nohead Hb.out (headOk_no (k := 3) (by decide) Hck.out rfl hc))
            clear hc
            go_wp2_with fail
            refine (must_no _).mono ?_
            rintro e w2 ⟨rfl, rfl⟩
            exact ⟨rfl, StepPost.tear (HR.out.ext HX1.out) (Mod.ext_r HX1.out) Hs.out⟩
    · have hkn : k = n := by omega
      have Hh : Hid (headOk x.b = true) := Lib.hid (headTo_all (by have := HH.out; rwa [hkn, Hlen.out] at this))
      by_cases h4 : n < 4
      · have h4' : ¬ ((4 : Int) ≤ (n : Int)) := by omega
        have Hs : Hid (stp Z x = .stop) := Lib.hid (stp_short Hb.out Hh.out (by have := Hlen.out; omega))
        obtain ⟨q0, q1, q2, qf⟩ := HI1.out.cells
        have qf0 := qf 0
        have qf1 := qf 1
        have qf2 := qf 2
        obtain ⟨hit, hxe⟩ := HI1.out.again (p' := .string ⟨#[]⟩) (k' := 0) (d' := .slice none 0 0) HX1.out (Nat.le_refl _)
        have Hit := Lib.hid hit
        have Hxe := Lib.hid hxe
        clear hkn h4 qf hit hxe s0 s1 s2 s3
        go_wp2_with fail
        try rw [Exit.noGoto_ret]
        obtain ⟨z0, z1, z2, -⟩ := Hit.out.cells
        exact bodyPost_ret (v := .tuple #[.agg #[.string ⟨#[]⟩, .int .i8 0, .slice none 0 0], .bool false]) (by simp [results, Tryd.results38, go_sem, z0, z1, z2]) rfl (StepPost.stop (HR.out.ext Hxe.out) (Mod.ext_r Hxe.out) Hs.out)
      · have h4' : (4 : Int) ≤ (n : Int) := by omega
        have Hs : Hid (stp Z x = .go none { x with begun := true, b := x.b.drop 4, sum := fnv Z x.sum (x.b.take 4) }) := Lib.hid (stp_first Hb.out Hh.out (by have := Hlen.out; omega))
        obtain ⟨g, off, rfl, hg⟩ : ∃ g off, A = some ⟨g, off, none⟩ ∧ g < w.heap.size := by obtain ⟨A', cap, hv, -, hp⟩ := HR.out.own.form; injection hv with h1; subst h1; exact hp (by omega)
        have hgr : g ≠ r := fun e => HR.out.apart (by simp [Value.ownBlock, e])
        clear hkn h4 s0 s1 s2 s3
        go_wp2_with fail
        have hmb : Mod (fun k => k = r) w1 (w1.setCell ⟨r, 2, none⟩ (.bool true)) := mod_set w1 r 2 _
        have HRb := Lib.hid ((HR.out.ext HX1.out).setBegun true)
        have HMb : Hid (Mod (fun k => k = r) w (w1.setCell ⟨r, 2, none⟩ (.bool true))) := Lib.hid (Mod.trans (T := fun k => k = r) (Mod.mono HX1.out (fun _ _ f => f.elim)) hmb (fun _ _ e => e))
        have HIb := Lib.hid (HI1.out.mod hmb hm0)
        clear hmb
        obtain ⟨w2, hw2⟩ : ∃ W, w1.setCell ⟨r, 2, none⟩ (.bool true) = W := ⟨_, rfl⟩
        rw [hw2] at HRb HMb HIb ⊢
        clear hw2
        refine (gone_any Z r g off n c 4 { x with begun := true } false w2 HRb.out (by omega) (by omega) HSum.out.2).mono ?_
        rintro e w3 ⟨rfl, hr3, hm3⟩
        have HR3 := Lib.hid hr3
        have HM3 := Lib.hid (HMb.out.trans hm3 (fun _ _ e => e))
        have HI3 := Lib.hid (HIb.out.mod hm3 hm0)
        obtain ⟨o3, ho3⟩ : ∃ o, (if c = 4 then off else off + 4) = o := ⟨_, rfl⟩
        rw [ho3] at HR3
        clear hr3 hm3 HRb HMb HIb ho3
        have hto : (Value.slice (some ⟨g, o3, none⟩) (n - 4) (c - 4)).ownBlock = (Value.slice (some ⟨g, off, none⟩) n c).ownBlock := rfl
        have Hto := Lib.hid hto
        clear hto
        go_wp2_with fail
        refine (step_begun Z hZ r (some ⟨g, o3, none⟩) (n - 4) (c - 4) { x with begun := true, b := x.b.drop 4, sum := fnv Z x.sum (x.b.take 4) } m w3 HR3.out rfl Hd.out (by omega) ((HM3.out.cell (p := ⟨0, 0, none⟩) (World.block_lt_of_cell? w _ HM.out) ?hr0).trans HM.out) hi (fnv_lt _ _ HSum.out.2)).mono ?_
        case hr0 => exact fun e => HR.out.ne0 HM.out (Eq.symm e)
        intro e w9 hp
        have Hpp := Lib.hid hp
        have HI9 := Lib.hid (HI3.out.mod hp.1 hm0)
        rcases hp.shape with rfl | ⟨p, kk, D, dn, dc, bb, rfl⟩
        · exact ⟨rfl, StepPost.behind Hs.out HM3.out Hto.out Hpp.out⟩
        · have Hst := Lib.hid (Hpp.out.out (i := w.heap.size) Hs.out HM3.out Hto.out (Nat.le_refl _) HI3.out.lt hm0 (fun j hj => by simp [Value.ownBlock] at hj; omega))
          have Hit := Lib.hid (HI9.out.set3 (p' := .string p) (k' := kk) (d' := .slice D dn dc))
          obtain ⟨q0, q1, q2, qf⟩ := HI9.out.cells
          have qf0 := qf 0
          have qf1 := qf 1
          have qf2 := qf 2
          clear qf hp
          go_wp2_with fail
          try rw [Exit.noGoto_ret]
          obtain ⟨z0, z1, z2, -⟩ := Hit.out.cells
          have hst := Hst.out
          unfold set3 at z0 z1 z2 hst
          exact bodyPost_ret (v := .tuple #[.agg #[.string p, .int .i8 kk, .slice D dn dc], .bool bb]) (by simp [results, Tryd.results38, go_sem, z0, z1, z2]) rfl hst
/-- What holds of a reader at all times. -/
structure Rd.Fine (x : Rd) : Prop where
  begun : x.done = true → x.begun = true
  items : x.items ≤ 4096
  sum : x.sum < 18446744073709551616
theorem step_any (Z : Sp) (hZ : Z.ok = okP) (r : Nat) (A : Option Addr) (n c : Nat) (x : Rd) (m : Int) (w : World) (hr : RdAt w r A n c x false) (hx : x.Fine) (hn : n ≤ 1073741824) (hm : w.cell? ⟨0, 0, none⟩ = some (.int .i64 m)) :
    Calls Tryd.prog 38 #[.pointer (some ⟨r, 0, none⟩)] w (StepPost Z x r A n c w) := by
  have hi : x.items ≤ 1000000 := by have := hx.items; omega
  cases hd : x.done with
  | true => exact step_done Z r A n c x w hr (hx.begun hd) hd
  | false =>
    cases hb : x.begun with
    | true => exact step_begun Z hZ r A n c x m w hr hb hd hn hm hi hx.sum
    | false => exact step_first Z hZ r A n c x m w hr hb hd hn hm hi hx.sum
end Go.Proofs.YtcpnnkkfndgpjaaDoor
