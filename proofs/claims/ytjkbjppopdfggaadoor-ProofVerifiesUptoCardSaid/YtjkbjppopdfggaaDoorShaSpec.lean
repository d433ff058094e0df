/-
  THE DIGEST, AS A FUNCTION ON LISTS OF NUMBERS.
  Own work. No macro, syntax, notation, axiom.
-/
import Derived.Test.YtjkbjppopdfggaaDoorDenWords3
namespace Go.Proofs.YtjkbjppopdfggaaDoor.Sha
open Go Den

def rotr (x n : Int) : Int := bOr .u32 (shR .u32 x n) (shL .u32 x (32 - n))
def ad (x y : Int) : Int := IntKind.wrap .u32 (x + y)
def s0 (x : Int) : Int := bXor .u32 (bXor .u32 (rotr x 7) (rotr x 18)) (shR .u32 x 3)
def s1 (x : Int) : Int := bXor .u32 (bXor .u32 (rotr x 17) (rotr x 19)) (shR .u32 x 10)
def S0 (a : Int) : Int := bXor .u32 (bXor .u32 (rotr a 2) (rotr a 13)) (rotr a 22)
def S1 (e : Int) : Int := bXor .u32 (bXor .u32 (rotr e 6) (rotr e 11)) (rotr e 25)
def ch (e f g : Int) : Int := bXor .u32 (bAnd .u32 e f) (bAnd .u32 (bXor .u32 (IntKind.max .u32) e) g)
def maj (a b c : Int) : Int := bXor .u32 (bXor .u32 (bAnd .u32 a b) (bAnd .u32 a c)) (bAnd .u32 b c)
def t1 (e f g h k w : Int) : Int := ad (ad (ad (ad h (S1 e)) (ch e f g)) k) w
def t2 (a b c : Int) : Int := ad (S0 a) (maj a b c)
def rnd (v : List Int) (k w : Int) : List Int :=
  match v with
  | [a, b, c, d, e, f, g, h] => [ad (t1 e f g h k w) (t2 a b c), a, b, c, ad d (t1 e f g h k w), e, f, g]
  | v => v
def word (bs : List Int) (t : Nat) : Int := ((bs.getD (4 * t) 0 * 256 + bs.getD (4 * t + 1) 0) * 256 + bs.getD (4 * t + 2) 0) * 256 + bs.getD (4 * t + 3) 0
def words (bs : List Int) : List Int := (List.range 16).map (word bs)
def nextW (l : List Int) : Int :=
  ad (ad (ad (s1 (l.getD (l.length - 2) 0)) (l.getD (l.length - 7) 0)) (s0 (l.getD (l.length - 15) 0))) (l.getD (l.length - 16) 0)
def sched (l : List Int) : Nat → List Int
  | 0 => l
  | n + 1 => sched l n ++ [nextW (sched l n)]
def ws (bs : List Int) : List Int := sched (words bs) 48
def Ks : List Int := [
  0x428a2f98, 0x71374491, 0xb5c0fbcf, 0xe9b5dba5, 0x3956c25b, 0x59f111f1, 0x923f82a4, 0xab1c5ed5,
  0xd807aa98, 0x12835b01, 0x243185be, 0x550c7dc3, 0x72be5d74, 0x80deb1fe, 0x9bdc06a7, 0xc19bf174,
  0xe49b69c1, 0xefbe4786, 0x0fc19dc6, 0x240ca1cc, 0x2de92c6f, 0x4a7484aa, 0x5cb0a9dc, 0x76f988da,
  0x983e5152, 0xa831c66d, 0xb00327c8, 0xbf597fc7, 0xc6e00bf3, 0xd5a79147, 0x06ca6351, 0x14292967,
  0x27b70a85, 0x2e1b2138, 0x4d2c6dfc, 0x53380d13, 0x650a7354, 0x766a0abb, 0x81c2c92e, 0x92722c85,
  0xa2bfe8a1, 0xa81a664b, 0xc24b8b70, 0xc76c51a3, 0xd192e819, 0xd6990624, 0xf40e3585, 0x106aa070,
  0x19a4c116, 0x1e376c08, 0x2748774c, 0x34b0bcb5, 0x391c0cb3, 0x4ed8aa4a, 0x5b9cca4f, 0x682e6ff3,
  0x748f82ee, 0x78a5636f, 0x84c87814, 0x8cc70208, 0x90befffa, 0xa4506ceb, 0xbef9a3f7, 0xc67178f2]
def Hs : List Int := [0x6a09e667, 0xbb67ae85, 0x3c6ef372, 0xa54ff53a, 0x510e527f, 0x9b05688c, 0x1f83d9ab, 0x5be0cd19]
def rounds (v ks w : List Int) : Nat → List Int
  | 0 => v
  | n + 1 => rnd (rounds v ks w n) (ks.getD n 0) (w.getD n 0)
def mixS (h bs : List Int) : List Int := List.zipWith ad h (rounds h Ks (ws bs) 64)
/-- So many whole blocks of 64 bytes. -/
def blocks (h bs : List Int) : Nat → List Int
  | 0 => h
  | n + 1 => blocks (mixS h bs) (bs.drop 64) n
def lenBytes (n : Nat) : List Int := (List.range 8).map fun i : Nat => IntKind.wrap .u8 (shR .u64 (IntKind.wrap .u64 (IntKind.wrap .u64 (n : Int) * 8)) (56 - 8 * (i : Int)))
def zeros (n : Nat) : Nat := (119 - n % 64) % 64
def pad (bs : List Int) : List Int := bs ++ [128] ++ List.replicate (zeros bs.length) 0 ++ lenBytes bs.length
def outB (h : List Int) : List Int := (List.range 32).map fun i : Nat => IntKind.wrap .u8 (shR .u32 (h.getD (i / 4) 0) (24 - 8 * ((i % 4 : Nat) : Int)))
def sha (bs : List Int) : List Int := outB (blocks Hs (pad bs) ((pad bs).length / 64))

abbrev u32 (l : List Int) : List Value := l.map (Value.int .u32)
abbrev u8 (l : List Int) : List Value := l.map (Value.int .u8)
def Bytes (l : List Int) : Prop := ∀ x ∈ l, 0 ≤ x ∧ x < 256

theorem rnd_length (v : List Int) (k w : Int) (h : v.length = 8) : (rnd v k w).length = 8 := by
  match v, h with
  | [a, b, c, d, e, f, g, h], _ => rfl
theorem rounds_length {v ks w : List Int} (h : v.length = 8) : ∀ n, (rounds v ks w n).length = 8
  | 0 => h
  | n + 1 => rnd_length _ _ _ (rounds_length h n)
theorem mixS_length {h bs : List Int} (hl : h.length = 8) : (mixS h bs).length = 8 := by
  unfold mixS; rw [List.length_zipWith, rounds_length hl, hl]; rfl
theorem sched_length (l : List Int) : ∀ n, (sched l n).length = l.length + n
  | 0 => rfl
  | n + 1 => by simp [sched, sched_length l n]; omega
theorem words_length (bs : List Int) : (words bs).length = 16 := by simp [words]
theorem sched_take (l : List Int) (n : Nat) : ∀ m, n ≤ m → (sched l m).take (l.length + n) = sched l n
  | 0, h => by
    have : n = 0 := by omega
    subst this; simp [sched]
  | m + 1, h => by
    by_cases e : n = m + 1
    · subst e; rw [List.take_of_length_le (by rw [sched_length]; omega)]
    · rw [sched, List.take_append_of_le_length (by rw [sched_length]; omega)]
      exact sched_take l n m (by omega)
theorem blocks_length : ∀ {n : Nat} {h bs : List Int}, h.length = 8 → (blocks h bs n).length = 8
  | 0, _, _, hl => hl
  | n + 1, _, _, hl => blocks_length (n := n) (mixS_length hl)
end Go.Proofs.YtjkbjppopdfggaaDoor.Sha
