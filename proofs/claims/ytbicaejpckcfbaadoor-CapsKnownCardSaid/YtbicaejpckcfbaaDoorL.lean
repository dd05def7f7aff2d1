/- Less. -/
import Derived.Test.YtbicaejpckcfbaaDoorI
namespace Go.Proofs.YtbicaejpckcfbaaDoor
open Go.RowKit

def lessB (a b : Nat) : Bool := decide (a &&& b = a)
theorem wrap8 (n : Nat) (h : n < 256) : IntKind.u8.wrap (n : Int) = (n : Int) := by
  show (n : Int) % 256 = _
  omega
theorem ofInt8 {a : Nat} (ha : a < 256) : (BitVec.ofInt 8 (a : Int)).toNat = a := by
  rw [BitVec.ofInt_natCast, BitVec.toNat_ofNat]; exact Nat.mod_eq_of_lt (by omega)
theorem bits_and8 {a b : Nat} (ha : a < 256) (hb : b < 256) : bits BinOp.and IntKind.u8 (a : Int) (b : Int) = ((a &&& b : Nat) : Int) := by
  show IntKind.u8.wrap ((BitVec.ofInt 8 (a : Int) &&& BitVec.ofInt 8 (b : Int)).toNat : Int) = _
  rw [BitVec.toNat_and, ofInt8 ha, ofInt8 hb]
  exact wrap8 _ (Nat.lt_of_le_of_lt Nat.and_le_left ha)
theorem bits_not8 {a b : Nat} (ha : a < 256) (hb : b < 256) : ∃ d : Nat, bits BinOp.andNot IntKind.u8 (a : Int) (b : Int) = (d : Int) ∧ (d = 0 ↔ a &&& b = a) := by
  refine ⟨(BitVec.ofInt 8 (a : Int) &&& ~~~BitVec.ofInt 8 (b : Int)).toNat, ?_, ?_⟩
  · show IntKind.u8.wrap ((BitVec.ofInt 8 (a : Int) &&& ~~~BitVec.ofInt 8 (b : Int)).toNat : Int) = _
    exact wrap8 _ (BitVec.isLt _)
  · have h1 : (BitVec.ofInt 8 (a : Int) &&& ~~~BitVec.ofInt 8 (b : Int)).toNat = 0 ↔ BitVec.ofInt 8 (a : Int) &&& ~~~BitVec.ofInt 8 (b : Int) = 0#8 :=
      ⟨fun h => BitVec.eq_of_toNat_eq (by rw [h]; rfl), fun h => by rw [h]; rfl⟩
    have h2 : a &&& b = a ↔ BitVec.ofInt 8 (a : Int) &&& BitVec.ofInt 8 (b : Int) = BitVec.ofInt 8 (a : Int) := by
      constructor
      · intro h; apply BitVec.eq_of_toNat_eq; rw [BitVec.toNat_and, ofInt8 ha, ofInt8 hb]; exact h
      · intro h; have := congrArg BitVec.toNat h; rwa [BitVec.toNat_and, ofInt8 ha, ofInt8 hb] at this
    rw [h1, h2]
    generalize BitVec.ofInt 8 (a : Int) = x
    generalize BitVec.ofInt 8 (b : Int) = y
    constructor
    · intro h
      apply BitVec.eq_of_getLsbD_eq
      intro i hi
      have := congrArg (fun z => z.getLsbD i) h
      simp [hi] at this ⊢
      exact this
    · intro h
      apply BitVec.eq_of_getLsbD_eq
      intro i hi
      have := congrArg (fun z => z.getLsbD i) h
      simp [hi] at this ⊢
      exact this

theorem less_any (a b : Nat) (ha : a < 256) (hb : b < 256) (w : World) : Calls Tryd.prog 10 #[.int .u8 (a : Int), .int .u8 (b : Int)] w fun e w' => e = .returned (.bool (lessB a b)) ∧ w' = w := by
  obtain ⟨d, hd, hz⟩ := bits_not8 ha hb
  have Hz := Lib.hid hz
  clear hz
  go_enter Tryd.func10, Tryd.ntmps10
  go_wp2
  go_ret
  refine ⟨?_, rfl⟩
  refine congrArg (fun b => Ending.returned (.bool b)) (?_ : _ = lessB a b)
  have := Hz.out
  unfold lessB
  rw [Bool.eq_iff_iff]
  simp only [beq_iff_eq, decide_eq_true_eq]
  rw [← this]
  omega
end Go.Proofs.YtbicaejpckcfbaaDoor
