/- Package digits: Text, by the logic over data. -/
import Derived.Test.YtkbhchlecokpiaaGreatFwD3
set_option linter.unusedVariables false
set_option linter.unusedSimpArgs false
namespace Go.Proofs.YtkbhchlecokpiaaGreat
open Go Go.RowKit Fw Tw
set_option linter.unusedVariables false
set_option linter.unusedSimpArgs false
def C18 : Nat := 1000000000000000000
theorem divC {X k : Nat} (hX : X < W ^ k) (hk : k ≤ 10000) : Ret Tryz.prog 185 [mN X, mW [1000000000000000000]] (.tup [mN (X / C18), mN (X % C18)]) := by
  have := divmod_r (dig_digs W_two X) (Dig.one (b := W) (x := 1000000000000000000) (by unfold W; omega)) (len_W hX (by omega)) (by simp)
  rw [val_digs W_two, val_one] at this
  exact this
theorem decE_len {X k : Nat} (hX : X < W ^ k) : (decE X).length ≤ 20 * k := by
  unfold decE
  rw [List.length_map]
  refine length_digs_le ten_two (Nat.lt_of_lt_of_le hX ?_)
  rw [Nat.pow_mul]
  exact Nat.pow_le_pow_left (by unfold W; omega) k
theorem byte_of {n : Nat} (h : n < 18446744073709551616) : IntKind.u8.wrap (IntKind.u64.wrap (48 + Int.tmod (n : Int) 10)) = (((dch (n % 10)).toNat : Nat) : Int) := by
  rw [dch_toNat (by omega)]
  have e2 : Int.tmod (n : Int) 10 = ((n % 10 : Nat) : Int) := rfl
  rw [e2, IntKind.wrap_u64, IntKind.wrap_u8]
  omega
theorem quo_of {n : Nat} (h : n < 18446744073709551616) : IntKind.u64.wrap (Int.tdiv (n : Int) 10) = ((n / 10 : Nat) : Int) := by
  have e2 : Int.tdiv (n : Int) 10 = ((n / 10 : Nat) : Int) := rfl
  rw [e2, IntKind.wrap_u64]
  omega
/-- the bytes so far: the slot, and the row -/
abbrev outS (o : List UInt8) : Nat × Option D := (3, some (.row 45 o.length 1))
abbrev outR (o : List UInt8) : Nat × Option O := (45, some (.rw 5 1 (o.flatMap mb)))
abbrev boxI (b : Bool) (l : List Nat) : Nat × Option O := (1, some (.box 31 [.im (.bool b), .im (mW l)]))
end Go.Proofs.YtkbhchlecokpiaaGreat
