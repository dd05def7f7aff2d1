/- Slices that read as bytes; numbers read out of bytes; the sum. -/
import Derived.Test.YtcpnnkkfndgpjaaDoorBase
import Derived.Test.YtcpnnkkfndgpjaaDoorChecked
import Derived.Test.YtcpnnkkfndgpjaaDoorPC
import Derived.IntWalk
import Derived.Laws.Bits64
import Derived.Laws.Bits64b
namespace Go.Proofs.YtcpnnkkfndgpjaaDoor
open Go.RowKit

def u8v (l : Bs) : List Value := l.map fun c => Value.int .u8 (c.toNat : Int)
/-- A slice value that reads as these bytes. -/
def BySl (w : World) (A : Option Addr) (n : Nat) (l : Bs) : Prop :=
  n = l.length ∧ (0 < n → ∃ b off, A = some ⟨b, off, none⟩ ∧ b < w.heap.size ∧ ∀ k (c : UInt8), l[k]? = some c → w.cell? ⟨b, off + k, none⟩ = some (.int .u8 (c.toNat : Int)))
theorem BySl.mod {S : Nat → Prop} {w w' : World} {A n l} (h : BySl w A n l) (hm : Mod S w w') (hs : ∀ b off, A = some ⟨b, off, none⟩ → ¬ S b) : BySl w' A n l := by
  refine ⟨h.1, fun hn => ?_⟩
  obtain ⟨b, off, rfl, hb, hc⟩ := h.2 hn
  exact ⟨b, off, rfl, Nat.lt_of_lt_of_le hb hm.size, fun k c hk => (hm.cell hb (hs b off rfl)).trans (hc k c hk)⟩
theorem BySl.ext {w w' : World} {A n l} (h : BySl w A n l) (he : Ext w w') : BySl w' A n l := h.mod he (fun _ _ _ f => f)
theorem BySl.at {w : World} {A : Option Addr} {n : Nat} {l : Bs} (h : BySl w A n l) {k : Nat} (hk : k < n) : ∃ b off c, A = some ⟨b, off, none⟩ ∧ b < w.heap.size ∧ l[k]? = some c ∧ (∀ wx, Ext w wx → wx.cell? ⟨b, off + k, none⟩ = some (.int .u8 (c.toNat : Int))) := by
  obtain ⟨b, off, rfl, hb, hc⟩ := h.2 (by omega)
  have hkl : k < l.length := by have := h.1; omega
  exact ⟨b, off, l[k], rfl, hb, List.getElem?_eq_getElem hkl, fun wx he => (he.cell hb).trans (hc k _ (List.getElem?_eq_getElem hkl))⟩
theorem Own.bytes {w : World} {A : Option Addr} {n m c : Nat} {l : Bs} (h : Own w 5 1 (.slice A m c) n (u8v l)) (hm : m = n) : BySl w A m l := by
  have hl : (u8v l).length = n * 1 := h.1
  refine ⟨by simp [u8v] at hl; omega, fun hn => ?_⟩
  obtain ⟨A', cap, hv, -, hp⟩ := h.form
  injection hv with h1 h2 h3
  subst h1
  obtain ⟨g, off, rfl, hg⟩ := hp (by omega)
  refine ⟨g, off, rfl, hg, fun k c hk => ?_⟩
  exact h.cells rfl k _ (by simp [u8v, hk])
theorem BySl.nil (w : World) (A : Option Addr) : BySl w A 0 [] := ⟨rfl, fun h => absurd h (by omega)⟩
/-- A part of a slice reads as the part. -/
theorem BySl.part {w : World} {b off n : Nat} {l : Bs} (h : BySl w (some ⟨b, off, none⟩) n l) {i k : Nat} (hi : i + k ≤ n) : BySl w (some ⟨b, off + i, none⟩) k ((l.drop i).take k) := by
  refine ⟨by have := h.1; simp; omega, fun hk => ?_⟩
  obtain ⟨b', off', e, hb, hc⟩ := h.2 (by omega)
  injection e with e
  injection e with e1 e2
  subst e1 e2
  refine ⟨b, off + i, rfl, hb, fun j c hj => ?_⟩
  have := hc (i + j) c (by
    rw [List.getElem?_take] at hj
    split at hj
    · rwa [List.getElem?_drop] at hj
    · cases hj)
  rwa [← Nat.add_assoc] at this
theorem take_snoc {l : Bs} {k : Nat} {c : UInt8} (h : l[k]? = some c) : l.take (k + 1) = l.take k ++ [c] := by
  obtain ⟨h1, h2⟩ := List.getElem?_eq_some_iff.1 h
  rw [List.take_succ_eq_append_getElem h1, h2]
theorem wrap_u64_nat (x : Nat) : IntKind.u64.wrap (x : Int) = ((x % 18446744073709551616 : Nat) : Int) := by
  simp [IntKind.wrap, IntKind.signed, IntKind.bits]
theorem wrap_byte (c : UInt8) : IntKind.u64.wrap (c.toNat : Int) = (c.toNat : Int) := IntWalk.u64_in _ (by have := c.toNat_lt; omega)
/-- A step of the sum. -/
theorem st_step (Z : Sp) {s : Nat} (hs : s < 18446744073709551616) (c : UInt8) : IntKind.u64.wrap (bits BinOp.xor IntKind.u64 (s : Int) (IntKind.u64.wrap (c.toNat : Int)) * 1099511628211) = (Z.st s c : Int) := by
  rw [wrap_byte, bits_xor_u64_nat _ _ hs (u8_lt64 c), Z.st_eq, ← wrap_u64_nat]
  rfl
theorem fnv_snoc' (Z : Sp) (l : Bs) (c : UInt8) : sumB Z (l ++ [c]) = Z.st (sumB Z l) c := fnv_snoc _ _ _
theorem put_int {k : IntKind} {a b : Int} (h : a = b) : Value.int k a = Value.int k b := by rw [h]
theorem ret_int {k : IntKind} {a b : Int} (h : a = b) : Ending.returned (.int k a) = .returned (.int k b) := by rw [h]
set_option maxRecDepth 20000 in
theorem sum_any (Z : Sp) (A : Option Addr) (n c : Nat) (l : Bs) (w : World) (hl : BySl w A n l) (hn : n ≤ 9223372036854775807) :
    Calls Tryd.prog 25 #[.slice A n c] w fun e w' => e = .returned (.int .u64 (sumB Z l : Int)) ∧ w = w' := by
  have HL := Lib.hid hl
  clear hl
  go_enter Tryd.func25, Tryd.ntmps25
  go_wp2_with fail
  go_loop [3, 8] (fun s i => ∃ k : Nat, k ≤ n ∧ i = .int .i64 (k : Int) ∧ s = .int .u64 (sumB Z (l.take k) : Int)) (fun _ i => n - (intOf i).toNat)
  case atStart => exact ⟨0, Nat.zero_le _, rfl, rfl⟩
  case round =>
    obtain ⟨k, hk, rfl, rfl⟩ := hrel
    obtain ⟨s, hs⟩ : ∃ s, sumB Z (l.take k) = s := ⟨_, rfl⟩
    have Hs := Lib.hid hs
    have hlt64 : s < 18446744073709551616 := by rw [← hs]; exact sumB_lt _
    rw [hs]
    have Hlt : Hid (True ∧ s < 18446744073709551616) := ⟨trivial, hlt64⟩
    clear hs hlt64
    by_cases hlt : k < n
    · obtain ⟨b, off, ch, rfl, -, hck, k0⟩ := HL.out.at hlt
      have d0 := k0 _ (Ext.refl _)
      have Hck := Lib.hid hck
      clear k0 hck
      go_wp2_with fail
      go_round
      case rel => exact ⟨k + 1, by omega, by go_num, put_int (by rw [st_step Z Hlt.out.2, ← Hs.out, ← fnv_snoc', ← take_snoc Hck.out])⟩
      case measure => simp [intOf]; omega
    · have hkn : k = n := by omega
      have He : Hid (s = sumB Z l) := Lib.hid (by rw [← Hs.out, hkn, HL.out.1, List.take_length])
      clear hkn
      go_wp2_with fail
      go_ret
      exact ⟨ret_int (by rw [He.out]), rfl⟩

theorem or_byte {s : Nat} (hs : s < 72057594037927936) (c : UInt8) : bits BinOp.or IntKind.u64 (IntKind.u64.wrap ((s : Int) * 256)) (IntKind.u64.wrap (c.toNat : Int)) = ((s * 256 + c.toNat : Nat) : Int) := by
  have hc := c.toNat_lt
  have e1 : IntKind.u64.wrap ((s : Int) * 256) = ((s * 256 : Nat) : Int) := by rw [IntWalk.u64_in _ (by omega)]; omega
  rw [wrap_byte, e1, bits_or_u64_nat _ _ (by omega) (u8_lt64 c)]
  congr 1
  have := Nat.two_pow_add_eq_or_of_lt (i := 8) (b := c.toNat) hc s
  rw [Nat.mul_comm s 256]
  exact this.symm
set_option maxRecDepth 20000 in
theorem number_any (A : Option Addr) (n c : Nat) (l : Bs) (w : World) (hl : BySl w A n l) (hn : n ≤ 8) :
    Calls Tryd.prog 46 #[.slice A n c] w fun e w' => e = .returned (.int .u64 (numL l : Int)) ∧ w = w' := by
  have HL := Lib.hid hl
  clear hl
  go_enter Tryd.func46, Tryd.ntmps46
  go_wp2_with fail
  go_loop [3, 8] (fun s i => ∃ k : Nat, k ≤ n ∧ i = .int .i64 (k : Int) ∧ s = .int .u64 (numL (l.take k) : Int)) (fun _ i => n - (intOf i).toNat)
  case atStart => exact ⟨0, Nat.zero_le _, rfl, rfl⟩
  case round =>
    obtain ⟨k, hk, rfl, rfl⟩ := hrel
    obtain ⟨s, hs⟩ : ∃ s, numL (l.take k) = s := ⟨_, rfl⟩
    have Hs := Lib.hid hs
    rw [hs]
    clear hs
    by_cases hlt : k < n
    · obtain ⟨b, off, ch, rfl, -, hck, k0⟩ := HL.out.at hlt
      have Hlt : Hid (True ∧ s < 72057594037927936) := ⟨trivial, by
        have h1 := numL_lt (l.take k)
        rw [Hs.out] at h1
        have h2 : 256 ^ (l.take k).length ≤ 256 ^ 7 := Nat.pow_le_pow_right (by decide) (by simp; omega)
        omega⟩
      have d0 := k0 _ (Ext.refl _)
      have Hck := Lib.hid hck
      clear k0 hck
      go_wp2_with fail
      go_round
      case rel => exact ⟨k + 1, by omega, by go_num, put_int (by rw [or_byte Hlt.out.2, ← Hs.out, ← numL_snoc, ← take_snoc Hck.out])⟩
      case measure => simp [intOf]; omega
    · have hkn : k = n := by omega
      have He : Hid (s = numL l) := Lib.hid (by rw [← Hs.out, hkn, HL.out.1, List.take_length])
      clear hkn
      go_wp2_with fail
      go_ret
      exact ⟨ret_int (by rw [He.out]), rfl⟩
theorem holds_any (k : Int) (w : World) : Calls Tryd.prog 26 #[.int .i8 k] w fun e w' => e = .returned (.int .i64 (holdsN k)) ∧ w = w' := by
  by_cases h0 : k = 0
  · subst h0; go_enter Tryd.func26, Tryd.ntmps26; go_wp2; go_ret; exact ⟨rfl, rfl⟩
  by_cases h2 : k = 2
  · subst h2; go_enter Tryd.func26, Tryd.ntmps26; go_wp2; go_ret; exact ⟨rfl, rfl⟩
  by_cases h1 : k = 1
  · subst h1; go_enter Tryd.func26, Tryd.ntmps26; go_wp2; go_ret; exact ⟨rfl, rfl⟩
  by_cases h4 : k = 4
  · subst h4; go_enter Tryd.func26, Tryd.ntmps26; go_wp2; go_ret; exact ⟨rfl, rfl⟩
  have e0 : (k == 0) = false := beq_eq_false_iff_ne.2 h0
  have e2 : (k == 2) = false := beq_eq_false_iff_ne.2 h2
  have e1 : (k == 1) = false := beq_eq_false_iff_ne.2 h1
  have e4 : (k == 4) = false := beq_eq_false_iff_ne.2 h4
  have hv : Hid (holdsN k = -1) := Lib.hid (by unfold holdsN; rw [if_neg (by omega), if_neg (by omega)])
  clear h0 h1 h2 h4
  go_enter Tryd.func26, Tryd.ntmps26
  go_wp2
  go_ret
  exact ⟨ret_int hv.out.symm, rfl⟩
end Go.Proofs.YtcpnnkkfndgpjaaDoor
