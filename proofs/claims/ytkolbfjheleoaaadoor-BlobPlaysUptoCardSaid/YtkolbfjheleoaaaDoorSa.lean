/- Contracts: the rotations, and mix: 64 bytes go into a state. -/
import Derived.Test.YtkolbfjheleoaaaDoorTa
import Derived.Test.YtkolbfjheleoaaaDoorFwSha
import Derived.Test.YtkolbfjheleoaaaDoorFwM
namespace Go.Proofs.YtkolbfjheleoaaaDoor
open Go Go.Fw Go.Proofs

theorem turn_c (x : BitVec 32) (n : Nat) {i : Int} (hi : i = (n : Int)) (h0 : 0 < n) (hn : n < 32) (w : World) : CallF P F_r01_turn #[.int .u32 (x.toNat : Int), .int .u64 i] w fun e w' => e = .returned (.int .u32 ((Sha.rotr x n).toNat : Int)) ∧ w' = w := by
  subst hi
  refine fn_r01_turn ?_
  unfold T_r01_turn
  refine shrW _ n rfl (by omega) ?_
  refine ⟨((32 - n : Nat) : Int), ?_, ?_⟩
  · rw [wrap_u64] <;> omega
  refine shlW _ (32 - n) rfl (by omega) ?_
  refine orW _ _ ?_
  exact ⟨rfl, rfl⟩

theorem rot_c (x : BitVec 32) (n : Nat) {i : Int} (hi : i = -(n : Int)) (h0 : 0 < n) (hn : n < 32) (w : World) : CallF P F_math_bits_RotateLeft32 #[.int .u32 (x.toNat : Int), .int .i64 i] w fun e w' => e = .returned (.int .u32 ((Sha.rotr x n).toNat : Int)) ∧ w' = w := by
  subst hi
  refine fn_math_bits_RotateLeft32 ?_
  unfold T_math_bits_RotateLeft32
  refine ⟨((18446744073709551616 - n : Nat) : Int), ?_, ?_⟩
  · simp only [IntKind.wrap, IntKind.bits, IntKind.signed]
    have e : (2 : Int) ^ 64 = 18446744073709551616 := by decide
    simp only [e, Bool.false_and, Bool.false_eq_true, if_false]
    omega
  refine ⟨((32 - n : Nat) : Int), ?_, ?_⟩
  · have this : (BitVec.ofInt IntKind.u64.bits ((18446744073709551616 - n : Nat) : Int) &&& BitVec.ofInt IntKind.u64.bits 31).toNat = 32 - n := by
      change (BitVec.ofNat 64 (18446744073709551616 - n) &&& BitVec.ofNat 64 31).toNat = 32 - n
      rw [BitVec.toNat_and, BitVec.toNat_ofNat, BitVec.toNat_ofNat]
      have e31 : 31 % 2 ^ 64 = 2 ^ 5 - 1 := by decide
      have e1 : (18446744073709551616 - n) % 2 ^ 64 = 18446744073709551616 - n := Nat.mod_eq_of_lt (by omega)
      rw [e31, Nat.and_two_pow_sub_one_eq_mod, e1]
      omega
    rw [this, wrap_u64] <;> omega
  refine shlW _ (32 - n) rfl (by omega) ?_
  refine ⟨((n : Nat) : Int), ?_, ?_⟩
  · rw [wrap_u64] <;> omega
  refine shrW _ n rfl (by omega) ?_
  refine orW _ _ ?_
  refine ⟨?_, rfl⟩
  unfold Sha.rotr
  rw [BitVec.or_comm]
end Go.Proofs.YtkolbfjheleoaaaDoor
