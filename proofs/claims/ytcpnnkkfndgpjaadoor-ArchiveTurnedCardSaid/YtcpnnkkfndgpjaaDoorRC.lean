/- The next thing that is whole, where the reader has begun and is not done. -/
import Derived.Test.YtcpnnkkfndgpjaaDoorRB
namespace Go.Proofs.YtcpnnkkfndgpjaaDoor
open Go.RowKit

theorem stp_front {Z : Sp} {x : Rd} (hb : x.begun = true) (hd : x.done = false) : stp Z x = match front Z x.items x.ahead x.sum x.b with
    | .bad => .tear
    | .wait => .stop
    | .item n y => .go (some y) { x with b := x.b.drop n, sum := fnv Z x.sum (x.b.take n), items := x.items + 1, ahead := y.path }
    | .fin => .go none { x with b := x.b.drop 13, sum := fnv Z x.sum (x.b.take 5), done := true } := by
  unfold stp
  rw [if_neg (by simp [hb]), if_neg (by simp [hd])]
  rfl
theorem stp_empty {Z : Sp} {x : Rd} (hb : x.begun = true) (hd : x.done = false) (h : x.b = []) : stp Z x = .stop := by rw [stp_front hb hd, h]; rfl
theorem stp_item {Z : Sp} {x : Rd} {k : UInt8} {t : Bs} (hb : x.begun = true) (hd : x.done = false) (h : x.b = k :: t) (hk : k ≠ 255) : stp Z x = match frontItem Z x.items x.ahead k x.b with
    | .bad => .tear
    | .wait => .stop
    | .item n y => .go (some y) { x with b := x.b.drop n, sum := fnv Z x.sum (x.b.take n), items := x.items + 1, ahead := y.path }
    | .fin => .go none { x with b := x.b.drop 13, sum := fnv Z x.sum (x.b.take 5), done := true } := by
  rw [stp_front hb hd]
  have e : front Z x.items x.ahead x.sum x.b = frontItem Z x.items x.ahead k x.b := by
    rw [h]
    show (if k = 255 then _ else _) = _
    rw [if_neg hk]
  rw [e]
theorem stp_end {Z : Sp} {x : Rd} {t : Bs} (hb : x.begun = true) (hd : x.done = false) (h : x.b = 255 :: t) : stp Z x = match frontEnd Z x.items x.sum x.b with
    | .bad => .tear
    | .wait => .stop
    | .item n y => .go (some y) { x with b := x.b.drop n, sum := fnv Z x.sum (x.b.take n), items := x.items + 1, ahead := y.path }
    | .fin => .go none { x with b := x.b.drop 13, sum := fnv Z x.sum (x.b.take 5), done := true } := by
  rw [stp_front hb hd]
  have e : front Z x.items x.ahead x.sum x.b = frontEnd Z x.items x.sum x.b := by
    rw [h]
    exact front_255 Z
  rw [e]
set_option maxRecDepth 20000 in
set_option maxHeartbeats 2000000 in
theorem step_item (Z : Sp) (hZ : Z.ok = okP) (r : Nat) (A : Option Addr) (n c : Nat) (x : Rd) (k : UInt8) (t : Bs) (m : Int) (w : World) (hr : RdAt w r A n c x false) (hb : x.begun = true) (hd : x.done = false) (hk : x.b = k :: t) (hk2 : k ≠ 255) (hn : n ≤ 1073741824) (hm : w.cell? ⟨0, 0, none⟩ = some (.int .i64 m)) (hi : x.items ≤ 1000000) (hsum : x.sum < 18446744073709551616) :
    Calls Tryd.prog 38 #[.pointer (some ⟨r, 0, none⟩)] w (StepPost Z x r A n c w) := by
  have HR := Lib.hid hr
  obtain ⟨d0, d1, d2, d3, d4, d5, d6, f0⟩ := hr.cells
  rw [hb] at d2
  rw [hd] at d6
  have hlen := hr.len
  have hrw : r < w.heap.size := hr.lt
  have hm0 : w.heap.size ≠ r := by omega
  have hsp := stp_item (Z := Z) hb hd hk hk2
  have hn1 : 1 ≤ n := by rw [hlen, hk]; simp
  obtain ⟨g, off, rfl, hg⟩ : ∃ g off, A = some ⟨g, off, none⟩ ∧ g < w.heap.size := by obtain ⟨A', cap, hv, -, hp⟩ := hr.own.form; injection hv with h1; subst h1; exact hp (by omega)
  have c0 : w.cell? ⟨g, off, none⟩ = some (.int .u8 (k.toNat : Int)) := by have := hr.own.cells rfl 0 (.int .u8 (k.toNat : Int)) (by rw [hk]; rfl); simpa using this
  have hk3 : ((k.toNat : Int) == 255) = false := beq_eq_false_iff_ne.2 (fun e => hk2 (UInt8.toNat_inj.1 (show k.toNat = 255 by omega)))
  have HX1 : Hid (Ext w (w.alloc (.cells #[.string ⟨#[]⟩, .int .i8 0, .slice none 0 0] 50))) := (Ext.refl _).alloc _
  have HI1 : Hid (ItAt (w.alloc (.cells #[.string ⟨#[]⟩, .int .i8 0, .slice none 0 0] 50)) w.heap.size (.string ⟨#[]⟩) 0 (.slice none 0 0)) := Lib.hid (heap_alloc_new w _)
  have HC := Lib.hid (item_any Z hZ r (some ⟨g, off, none⟩) n c x k t m (w.alloc (.cells #[.string ⟨#[]⟩, .int .i8 0, .slice none 0 0] 50)) (hr.ext HX1.out) hk hn ((HX1.out.cell (World.block_lt_of_cell? w _ hm)).trans hm) hi hsum)
  obtain ⟨F, hF⟩ : ∃ F, frontItem Z x.items x.ahead k x.b = F := ⟨_, rfl⟩
  rw [hF] at hsp HC
  have Hsp := Lib.hid hsp
  clear hr hb hd hlen f0 hk hk2 hsp hF hm
  go_enter Tryd.func38, Tryd.ntmps38
  go_wp2_with fail
  go_step3
  go_wp2_with fail
  refine HC.out.mono ?_
  intro e w2 hp
  cases F with
  | bad =>
    obtain ⟨rfl, hx2⟩ := hp
    exact ⟨rfl, StepPost.tear (HR.out.ext (HX1.out.trans hx2)) (Mod.ext_r (HX1.out.trans hx2)) Hsp.out⟩
  | wait =>
    obtain ⟨hx2, p, kk, rfl⟩ := hp
    have HX2 := Lib.hid (HX1.out.trans hx2)
    have HI2 := Lib.hid (HI1.out.ext hx2)
    clear hx2 HX1 HI1 HC
    obtain ⟨-, -, -, qf⟩ := HI2.out.cells
    have qf0 := qf 0
    have qf1 := qf 1
    have qf2 := qf 2
    obtain ⟨hit, hxe⟩ := HI2.out.again (p' := .string p) (k' := kk) (d' := .slice none 0 0) HX2.out (Nat.le_refl _)
    have Hit := Lib.hid hit
    have Hxe := Lib.hid hxe
    have Hs : Hid (stp Z x = .stop) := Hsp
    obtain ⟨q0, q1, q2, -⟩ := HI2.out.cells
    clear qf hit hxe Hsp
    go_wp2_with fail
    rw [Exit.noGoto_ret]
    obtain ⟨z0, z1, z2, -⟩ := Hit.out.cells
    exact bodyPost_ret (v := .tuple #[.agg #[.string p, .int .i8 kk, .slice none 0 0], .bool false]) (by simp [results, Tryd.results38, go_sem, z0, z1, z2]) rfl (StepPost.stop (HR.out.ext Hxe.out) (Mod.ext_r Hxe.out) Hs.out)
  | item q y =>
    obtain ⟨D, dc, A', n', c', rfl, hr', hob, hmd, ho, hv⟩ := hp
    have HR2 := Lib.hid hr'
    have HM2 : Hid (Mod (fun k => k = r) w w2) := Lib.hid (Mod.trans (T := fun k => k = r) (Mod.mono HX1.out (fun _ _ f => f.elim)) hmd (fun _ _ e => e))
    have HI2 := Lib.hid (HI1.out.mod hmd hm0)
    have HO2 := Lib.hid ho
    have HV2 := Lib.hid hv
    have Hob := Lib.hid hob
    clear hr' hob hmd ho hv HX1 HI1 HC
    obtain ⟨q0, q1, q2, qf⟩ := HI2.out.cells
    have qf0 := qf 0
    have qf1 := qf 1
    have qf2 := qf 2
    obtain ⟨hit, hxe⟩ := HI2.out.againM (p' := .string ⟨y.path.toArray⟩) (k' := y.kind) (d' := .slice D y.data.length dc) HM2.out (Nat.le_refl _)
    have Hit := Lib.hid hit
    have Hxe := Lib.hid hxe
    clear qf hit hxe
    go_wp2_with fail
    rw [Exit.noGoto_ret]
    obtain ⟨z0, z1, z2, -⟩ := Hit.out.cells
    have hmI : Mod (fun k => k = w.heap.size) w2 (((w2.setCell ⟨w.heap.size, 0, none⟩ (.string ⟨y.path.toArray⟩)).setCell ⟨w.heap.size, 1, none⟩ (.int .i8 y.kind)).setCell ⟨w.heap.size, 2, none⟩ (.slice D y.data.length dc)) := ((mod_set w2 w.heap.size 0 _).trans (mod_set _ w.heap.size 1 _) (fun _ _ e => e)).trans (mod_set _ w.heap.size 2 _) (fun _ _ e => e)
    exact bodyPost_ret (v := .tuple #[.agg #[.string ⟨y.path.toArray⟩, .int .i8 y.kind, .slice D y.data.length dc], .bool true]) (by simp [results, Tryd.results38, go_sem, z0, z1, z2]) rfl
      ⟨Hxe.out, x, .refl _, .inr (.inr ⟨y, _, Hsp.out, D, dc, A', n', c', rfl, HR2.out.mod hmI (fun e => hm0 e.symm) (fun j hj e => by
        rw [Hob.out] at hj
        simp [Value.ownBlock] at hj
        omega), Hob.out, HO2.out.mod hmI (fun j hj e => by have := HV2.out j hj; simp at this; omega), fun j hj => by have := HV2.out j hj; simp at this; omega⟩)⟩
  | fin => exact hp.elim
end Go.Proofs.YtcpnnkkfndgpjaaDoor
