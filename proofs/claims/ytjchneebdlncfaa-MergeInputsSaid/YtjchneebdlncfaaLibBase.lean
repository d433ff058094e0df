/-
  NUMBERS AND BYTES: lists of numbers as cells, ranges, bytes of numbers.
  Own work. No macro, syntax, notation, axiom.
-/
import Derived.Test.YtjchneebdlncfaaDenWords8
import Derived.Test.YtjchneebdlncfaaProg
namespace Go.Proofs.Ytjchneebdlncfaa.Lib
open Go Den
open Go.RowKit (Below)
set_option maxRecDepth 8000

abbrev u8 (l : List Int) : List Value := l.map (Value.int .u8)
abbrev i64s (l : List Int) : List Value := l.map (Value.int .i64)
def Bytes (l : List Int) : Prop := ∀ x ∈ l, 0 ≤ x ∧ x < 256
def I64 (n : Int) : Prop := -9223372036854775808 ≤ n ∧ n ≤ 9223372036854775807
def U64 (n : Int) : Prop := 0 ≤ n ∧ n < 18446744073709551616
theorem i64_wf {n : Int} : (Lit.int .i64 n).wf = true ↔ I64 n := by
  simp [Lit.wf, IntKind.min, IntKind.max, IntKind.signed, IntKind.bits, I64]
theorem u8_wf {n : Int} : (Lit.int .u8 n).wf = true ↔ 0 ≤ n ∧ n < 256 := by
  simp [Lit.wf, IntKind.min, IntKind.max, IntKind.signed, IntKind.bits]
  omega
theorem take_set_len {l : List Int} {k : Nat} (h : k < l.length) (v : Int) : (l.set k v).take (k + 1) = l.take k ++ [v] := by
  rw [List.take_succ_eq_append_getElem (by simpa using h)]
  simp [List.take_set_of_le]
theorem getD_take {l : List Int} {k i : Nat} (h : i < k) : (l.take k).getD i 0 = l.getD i 0 := by
  simp [List.getD_eq_getElem?_getD, List.getElem?_take, h]
theorem getD_set_self {l : List Int} {k : Nat} (h : k < l.length) (v : Int) : (l.set k v).getD k 0 = v := by
  simp [List.getD_eq_getElem?_getD, h]
theorem getD_set_ne {l : List Int} {k i : Nat} (h : k ≠ i) (v : Int) : (l.set k v).getD i 0 = l.getD i 0 := by
  simp [List.getD_eq_getElem?_getD, List.getElem?_set_ne h]
theorem getD_append {a b : List Int} {i : Nat} (h : i < a.length) : (a ++ b).getD i 0 = a.getD i 0 := by
  simp [List.getD_eq_getElem?_getD, List.getElem?_append_left h]
theorem getD_append_r {a b : List Int} {i : Nat} : (a ++ b).getD (a.length + i) 0 = b.getD i 0 := by
  simp [List.getD_eq_getElem?_getD, List.getElem?_append_right]
theorem getD_drop {l : List Int} {k i : Nat} : (l.drop k).getD i 0 = l.getD (k + i) 0 := by
  simp [List.getD_eq_getElem?_getD, List.getElem?_drop]
theorem byte_of {bs : List Int} (h : Bytes bs) (i : Nat) : 0 ≤ bs.getD i 0 ∧ bs.getD i 0 < 256 := by
  rw [List.getD_eq_getElem?_getD]
  cases hb : bs[i]? with
  | none => simp
  | some x => exact h x (List.mem_of_getElem? hb)
theorem wrap_u8_byte (x : Int) : 0 ≤ IntKind.wrap .u8 x ∧ IntKind.wrap .u8 x < 256 := by rw [wrap_u8_eq]; omega
theorem u8_len {w : World} {a : Option Addr} {n c : Nat} {bs : List Int} (h : RSl w 1 a n c (u8 bs)) : bs.length = n := by have := h.len; simpa using this
theorem Bytes.append {a b : List Int} (h : Bytes a) (k : Bytes b) : Bytes (a ++ b) := fun x hx => (List.mem_append.1 hx).elim (h x) (k x)
theorem Bytes.nil : Bytes [] := fun x hx => by cases hx
theorem Bytes.left {a b : List Int} (h : Bytes (a ++ b)) : Bytes a := fun x hx => h x (List.mem_append_left _ hx)
theorem Bytes.right {a b : List Int} (h : Bytes (a ++ b)) : Bytes b := fun x hx => h x (List.mem_append_right _ hx)
theorem Bytes.drop {bs : List Int} (h : Bytes bs) (n : Nat) : Bytes (bs.drop n) := fun x hx => h x (List.mem_of_mem_drop hx)
theorem Bytes.take {bs : List Int} (h : Bytes bs) (n : Nat) : Bytes (bs.take n) := fun x hx => h x (List.mem_of_mem_take hx)
theorem Bytes.one {x : Int} (h0 : 0 ≤ x) (h1 : x < 256) : Bytes [x] := fun y hy => by simp at hy; omega
theorem u8_inj : ∀ {a b : List Int}, u8 a = u8 b → a = b
  | [], [], _ => rfl
  | [], _ :: _, h => by cases h
  | _ :: _, [], h => by cases h
  | x :: r, y :: s, h => by
    simp only [List.map_cons, List.cons.injEq, Value.int.injEq, true_and] at h
    rw [h.1, u8_inj h.2]
theorem take_succ_getD {l : List Int} {k : Nat} (h : k < l.length) : l.take (k + 1) = l.take k ++ [l.getD k 0] := by
  rw [List.take_succ_eq_append_getElem h]
  simp [List.getD_eq_getElem?_getD, h]
theorem drop_cons_getD {l : List Int} {k : Nat} (h : k < l.length) : l.drop k = l.getD k 0 :: l.drop (k + 1) := by
  rw [List.drop_eq_getElem_cons h]
  simp [List.getD_eq_getElem?_getD, h]
theorem ext_getD {a b : List Int} {n : Nat} (ha : a.length = n) (hb : b.length = n) (h : ∀ p, p < n → a.getD p 0 = b.getD p 0) : a = b := by
  apply List.ext_getElem (by omega)
  intro i h1 h2
  have := h i (by omega)
  simpa [List.getD_eq_getElem?_getD, h1, h2] using this
theorem shR_nat {k : IntKind} {x : Int} (n : Nat) (hn : n ≤ k.bits) : shR k x (n : Int) = x / 2 ^ n := by
  unfold shR
  rw [Int.toNat_natCast, Nat.min_eq_left hn, Int.fdiv_eq_ediv_of_nonneg _ (by exact Int.pow_nonneg (by omega))]
theorem bOr_nat {k : IntKind} (h63 : k.bits ≤ 64) {a b : Nat} (n : Nat) (h : b < 2 ^ n) (ha : a * 2 ^ n + b < 2 ^ k.bits) (hw : IntKind.wrap k ((a * 2 ^ n + b : Nat) : Int) = ((a * 2 ^ n + b : Nat) : Int)) : bOr k ((a * 2 ^ n : Nat) : Int) (b : Int) = ((a * 2 ^ n + b : Nat) : Int) := by
  unfold bOr
  rw [BitVec.toNat_or, toNat_ofInt (by omega) (by exact_mod_cast (show a * 2 ^ n < 2 ^ k.bits by omega)), toNat_ofInt (by omega) (by exact_mod_cast (show b < 2 ^ k.bits by omega)), Int.toNat_natCast, Int.toNat_natCast, or_plus n h]
  exact hw
theorem _root_.Go.Proofs.Ytjchneebdlncfaa.Den.RSl.cut {w : World} {a : Option Addr} {n c : Nat} {bs : List Int} (h : RSl w 1 a n c (u8 bs)) {l hh : Nat} (h1 : l ≤ hh) (h2 : hh ≤ n) :
    RSl w 1 (if c = l then a else Option.map (fun y => Addr.add y (l * 1)) a) (hh - l) (c - l) (u8 ((bs.drop l).take (hh - l))) := by
  have := h.sub h1 h2
  rw [Nat.mul_one, Nat.mul_one, ← List.map_drop, ← List.map_take] at this
  rw [Nat.mul_one]
  exact this
theorem zc8 : zc Try.prog 5 = [.int .u8 0] := by kernel_rfl
theorem bT : slT Try.prog 98 5 1 1 = true := by kernel_rfl
end Go.Proofs.Ytjchneebdlncfaa.Lib
