import Derived.Test.YthdnbnombelfpaaGreatDoorAx6
import Derived.IntWalk
/- AX, part S: small rules on numbers for the walks. -/
set_option linter.unusedVariables false
set_option linter.unusedSimpArgs false
namespace Go.Proofs.Ax
open Go.RowKit

theorem wrap_i64 {x : Int} (h0 : -9223372036854775808 ≤ x) (h1 : x ≤ 9223372036854775807) : IntKind.i64.wrap x = x := by
  have := IntWalk.i64_in x ⟨h0, h1⟩
  exact this
theorem wrap_byte (b : UInt8) : IntKind.i64.wrap (b.toNat : Int) = b.toNat := wrap_i64 (by omega) (by have := b.toNat_lt; omega)
theorem wrap_byte32 (b : UInt8) : IntKind.i32.wrap (b.toNat : Int) = b.toNat := by
  have := b.toNat_lt
  simp only [IntKind.wrap, IntKind.bits, IntKind.signed]
  simp
  omega
theorem byte_eq (b c : UInt8) : ((b.toNat : Int) == (c.toNat : Int)) = (b == c) := by
  rw [Bool.eq_iff_iff]
  simp only [beq_iff_eq]
  constructor
  · intro h
    apply UInt8.toNat_inj.1
    omega
  · rintro rfl; rfl
/-- What a function hands back behind its walk. -/
theorem ret_of {Q : AEnd → AH → Prop} {r r' : AV} (h : r = r') (hq : Q (.ret r') []) : Q (.ret r) [] := by rw [h]; exact hq
end Go.Proofs.Ax
