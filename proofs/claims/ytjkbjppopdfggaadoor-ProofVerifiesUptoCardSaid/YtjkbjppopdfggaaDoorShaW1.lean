/-
  THE DIGEST: contracts of the small functions.
  Own work. No macro, syntax, notation, axiom.
-/
import Derived.Test.YtjkbjppopdfggaaDoorShaSpec
import Derived.Test.YtjkbjppopdfggaaDoorFnS
namespace Go.Proofs.YtjkbjppopdfggaaDoor.Sha
open Go Den Fn
open Go.RowKit (Below)


theorem zc96 : zc Tryd.prog 96 = List.replicate 64 (.int .u32 0) := by kernel_rfl
theorem zc91 : zc Tryd.prog 91 = List.replicate 8 (.int .u32 0) := by kernel_rfl
theorem zc24 : zc Tryd.prog 24 = List.replicate 32 (.int .u8 0) := by kernel_rfl
theorem zc5 : zc Tryd.prog 5 = [.int .u8 0] := by kernel_rfl

theorem rot_c (x n : Int) (w : World) (h0 : 0 ≤ n) (h1 : n ≤ 31) (hn : 1 ≤ n) :
    Calls Tryd.prog 85 #[.int .u32 x, .int .i64 (-n)] w fun e w' => e = .returned (.int .u32 (rotr x n)) ∧ w' = w := by
  refine c85 _ _ ?_
  have e1 : bAnd .u64 (IntKind.wrap .u64 (-n)) 31 = 32 - n := by
    have hh : n = 1 ∨ n = 2 ∨ n = 3 ∨ n = 4 ∨ n = 5 ∨ n = 6 ∨ n = 7 ∨ n = 8 ∨ n = 9 ∨ n = 10 ∨ n = 11 ∨ n = 12 ∨ n = 13 ∨ n = 14 ∨ n = 15 ∨ n = 16 ∨ n = 17 ∨ n = 18 ∨ n = 19 ∨ n = 20 ∨ n = 21 ∨ n = 22 ∨ n = 23 ∨ n = 24 ∨ n = 25 ∨ n = 26 ∨ n = 27 ∨ n = 28 ∨ n = 29 ∨ n = 30 ∨ n = 31 := by omega
    rcases hh with rfl | rfl | rfl | rfl | rfl | rfl | rfl | rfl | rfl | rfl | rfl | rfl | rfl | rfl | rfl | rfl | rfl | rfl | rfl | rfl | rfl | rfl | rfl | rfl | rfl | rfl | rfl | rfl | rfl | rfl | rfl <;> decide +kernel
  unfold d85
  rw [e1, wrap_u64 (by omega) (by omega), show (32 : Int) - (32 - n) = n by omega]
  refine ⟨by omega, by omega, ?_, rfl⟩
  rw [bOr_comm]; rfl
theorem turned_c (x n : Int) (w : World) (h1 : n ≤ 31) (hn : 1 ≤ n) :
    Calls Tryd.prog 70 #[.int .u32 x, .int .i64 n] w fun e w' => e = .returned (.int .u32 (rotr x n)) ∧ w' = w := by
  refine c70 _ _ ?_
  unfold d70
  rw [wrap_i64 (by omega) (by omega), Int.zero_sub]
  refine (rot_c x n w (by omega) h1 hn).mono ?_
  rintro e w' ⟨rfl, rfl⟩
  exact ⟨_, rfl, rfl, rfl⟩
theorem turn_c (x n : Int) (w : World) (h1 : n ≤ 31) (hn : 1 ≤ n) :
    Calls Tryd.prog 49 #[.int .u32 x, .int .u32 n] w fun e w' => e = .returned (.int .u32 (rotr x n)) ∧ w' = w := by
  refine c49 _ _ ?_
  unfold d49
  rw [wrap_u32 (by omega) (by omega)]
  exact ⟨by omega, by omega, rfl, rfl⟩
end Go.Proofs.YtjkbjppopdfggaaDoor.Sha
