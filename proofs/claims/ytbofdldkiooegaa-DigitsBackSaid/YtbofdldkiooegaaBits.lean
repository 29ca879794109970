/- math/bits: Add64, Sub64 (laws of the call: the model stands in for both), Mul64, in natural numbers to the base W. -/
import Derived.Test.YtbofdldkiooegaaShelf
import Derived.Test.YtbofdldkiooegaaMem
import Derived.Laws.Externs
namespace Go.Proofs.Ytbofdldkiooegaa
open Go Go.RowKit Tw
set_option linter.unusedVariables false
set_option linter.unusedSimpArgs false

theorem run_add64N {P : Program} (x y c : Nat) (hc : c ≤ 1) (w : World) :
    (add64Entry #[.int .u64 x, .int .u64 y, .int .u64 c]).run P w =
      .ok (.tuple #[.int .u64 (((x + y + c) % W : Nat) : Int), .int .u64 (((x + y + c) / W : Nat) : Int)]) w := by
  have : c = 0 ∨ c = 1 := by omega
  rcases this with rfl | rfl <;> rfl

def sub64Entry : Array Value → Sem Value := fun args => do
  let (x, y, b) ← Extern.MathBitsCarry.three "Sub64" args
  pure (Extern.MathBitsCarry.pair ((x + Extern.MathBitsCarry.m64 - y - b) % Extern.MathBitsCarry.m64) (if x < y + b then 1 else 0))

theorem run_sub64N {P : Program} (x y b : Nat) (hb : b ≤ 1) (w : World) :
    (sub64Entry #[.int .u64 x, .int .u64 y, .int .u64 b]).run P w =
      .ok (.tuple #[.int .u64 (((x + W - y - b) % W : Nat) : Int), .int .u64 ((if x < y + b then 1 else 0 : Nat) : Int)]) w := by
  have : b = 0 ∨ b = 1 := by omega
  rcases this with rfl | rfl <;> rfl

/-- sum and carry -/
def addS (x y c : Nat) : Nat := (x + y + c) % W
def addC (x y c : Nat) : Nat := (x + y + c) / W
def subS (x y b : Nat) : Nat := (x + W - y - b) % W
def subB (x y b : Nat) : Nat := if x < y + b then 1 else 0
def mulH (x y : Nat) : Nat := x * y / W
def mulL (x y : Nat) : Nat := x * y % W

theorem add_eq (x y c : Nat) : addS x y c + W * addC x y c = x + y + c := Nat.mod_add_div _ _
theorem addS_lt (x y c : Nat) : addS x y c < W := Nat.mod_lt _ (by have := W_two; omega)
theorem addC_le {x y c : Nat} (hx : x < W) (hy : y < W) (hc : c ≤ 1) : addC x y c ≤ 1 := by
  unfold addC
  have : (x + y + c) / W < 2 := by rw [Nat.div_lt_iff_lt_mul (by have := W_two; omega)]; omega
  omega
theorem mul_eq (x y : Nat) : mulL x y + W * mulH x y = x * y := Nat.mod_add_div _ _
theorem mulL_lt (x y : Nat) : mulL x y < W := Nat.mod_lt _ (by have := W_two; omega)
theorem mulH_lt {x y : Nat} (hx : x < W) (hy : y < W) : mulH x y < W := by
  unfold mulH
  rw [Nat.div_lt_iff_lt_mul (by have := W_two; omega)]
  exact Nat.mul_lt_mul'' hx hy
theorem subB_le (x y b : Nat) : subB x y b ≤ 1 := by unfold subB; split <;> omega
theorem subS_lt (x y b : Nat) : subS x y b < W := Nat.mod_lt _ (by have := W_two; omega)
theorem sub_eq {x y b : Nat} (hx : x < W) (hy : y < W) (hb : b ≤ 1) : subS x y b + y + b = x + W * subB x y b := by
  unfold subS subB
  split
  · rename_i h
    rw [Nat.mod_eq_of_lt (by omega)]; omega
  · rename_i h
    have : x + W - y - b = (x - y - b) + W := by omega
    rw [this, Nat.add_mod_right, Nat.mod_eq_of_lt (by omega)]; omega

theorem add64_run (x y c : Nat) (hc : c ≤ 1) (w : World) :
    (callFunc 85 #[.int .u64 x, .int .u64 y, .int .u64 c]).run Try.prog w =
      .ok (.value (.tuple #[.int .u64 ((addS x y c : Nat) : Int), .int .u64 ((addC x y c : Nat) : Int)])) w := by
  rw [run_callFunc_extern Try.func85 (by kernel_rfl) (by kernel_rfl) (by kernel_rfl) (e := add64Entry) (by kernel_rfl), run_add64N x y c hc]
  rfl

theorem add64_run0 (x y : Nat) (w : World) :
    (callFunc 85 #[.int .u64 x, .int .u64 y, .int .u64 0]).run Try.prog w =
      .ok (.value (.tuple #[.int .u64 ((addS x y 0 : Nat) : Int), .int .u64 ((addC x y 0 : Nat) : Int)])) w := add64_run x y 0 (by omega) w

theorem sub64_run (x y b : Nat) (hb : b ≤ 1) (w : World) :
    (callFunc 88 #[.int .u64 x, .int .u64 y, .int .u64 b]).run Try.prog w =
      .ok (.value (.tuple #[.int .u64 ((subS x y b : Nat) : Int), .int .u64 ((subB x y b : Nat) : Int)])) w := by
  rw [run_callFunc_extern Try.func88 (by kernel_rfl) (by kernel_rfl) (by kernel_rfl) (e := sub64Entry) (by kernel_rfl), run_sub64N x y b hb]
  rfl

theorem sub64_run0 (x b : Nat) (hb : b ≤ 1) (w : World) :
    (callFunc 88 #[.int .u64 x, .int .u64 0, .int .u64 b]).run Try.prog w =
      .ok (.value (.tuple #[.int .u64 ((subS x 0 b : Nat) : Int), .int .u64 ((subB x 0 b : Nat) : Int)])) w := sub64_run x 0 b hb w

theorem mul64_c (x y : Nat) (hx : x < W) (hy : y < W) (w : World) :
    Calls Try.prog 84 #[.int .u64 x, .int .u64 y] w fun e w' =>
      e = .returned (.tuple #[.int .u64 ((mulH x y : Nat) : Int), .int .u64 ((mulL x y : Nat) : Int)]) ∧ w = w' :=
  (Try.bits_Mul64 x y hx hy w).mono fun _ _ ⟨a, b⟩ => ⟨a, b.symm⟩

end Go.Proofs.Ytbofdldkiooegaa
