/-
  TREES OVER ROWS: where rows part (the program's differ, IndexFunc), as code.
  WORDS FOR MAPS whose keys are rows of numbers, booleans, strings: 'MapAt'; lookup, update, delete.
  TREES OVER ROWS: the tree as data and as memory; contracts of IndexFunc, digest, grow.
  A FUNCTION WITH A RANGE OVER A FUNCTION IN ITS OUTERMOST SEQUENCE: what is asked of it, and that this is right.
  THE CODE of some functions of the given program, resolved, and proved to ask what the readable texts (d..) say; contracts c.. follow. Printed by a small program of mine.
  THE CODE of some functions of the given program, resolved, and proved to ask what the readable texts (d..) say; contracts c.. follow. Printed by a small program of mine.
  Verify: its contract.
  The reference's Verify: formed, Path, Verify: contracts.
  The reference's Path and Verify: contracts.
  TREES OVER ROWS: grow: its contract.
  TREES OVER ROWS: grow: its contract.
  TREES OVER ROWS: New: its contract.
  ARGUMENTS THAT ARE NESTED ROWS: what the row's reading says of memory ('open_rep').
  Own work. No macro, syntax, notation, axiom.
-/
import Derived.Test.YtjkbjppopdfggaaDoorTrePk9
import Derived.Test.YtjkbjppopdfggaaDoorTrePk10
import Derived.Test.YtjkbjppopdfggaaDoorTrePk8
import Derived.DeepKeys3
import Derived.Test.YtjkbjppopdfggaaDoorTrePk3
import Derived.RangeFuncNested
import Derived.RangeFuncLeaves
import Derived.Test.YtjkbjppopdfggaaDoorProg
namespace Go.Proofs.YtjkbjppopdfggaaDoor.Tre
open Go Den Fn Sha
open Go.RowKit (Below)
set_option maxRecDepth 8000
set_option maxHeartbeats 1000000
abbrev kw (x : Rw) : List Int := Sha.keyB x.t x.r
structure Rw.ok (x : Rw) : Prop where
  key : Sha.KeyOk x.t
  t : Sha.I64 x.t
  r : Sha.I64 x.r
  v : Sha.I64 x.v
abbrev rwC (x : Rw) : List Value := rowC x.t x.r x.v
theorem rwC_len {l : List Rw} : ∀ x ∈ l, (rwC x).length = 3 := fun _ _ => rfl
/-- Rows that a tree may stand over. -/
structure RowsOk (l : List Rw) : Prop where
  ok : ∀ x ∈ l, x.ok
  up : Up (keysOf l)
theorem RowsOk.take {l : List Rw} (h : RowsOk l) (k : Nat) : RowsOk (l.take k) := ⟨fun x hx => h.ok x (List.mem_of_mem_take hx), by rw [keysOf, List.map_take]; exact h.up.sublist (List.take_sublist _ _)⟩
theorem RowsOk.drop {l : List Rw} (h : RowsOk l) (k : Nat) : RowsOk (l.drop k) := ⟨fun x hx => h.ok x (List.mem_of_mem_drop hx), by rw [keysOf, List.map_drop]; exact h.up.sublist (List.drop_sublist _ _)⟩
/-- Where rows part: the bit. -/
def PartB (l : List Rw) (n : Nat) : Prop := ∃ x y, l[0]? = some x ∧ l[l.length - 1]? = some y ∧ Fst (kw x) (kw y) n ∧ bitS (kw x) n = 0 ∧ bitS (kw y) n = 1
theorem partB_ex {l : List Rw} (h : RowsOk l) (h2 : 2 ≤ l.length) : ∃ n, PartB l n := by
  have hx : l[0]? = some (l[0]'(by omega)) := List.getElem?_eq_getElem (by omega)
  have hy : l[l.length - 1]? = some (l[l.length - 1]'(by omega)) := List.getElem?_eq_getElem (by omega)
  have hlt : Lib.cmpK (l[0]'(by omega)).k (l[l.length - 1]'(by omega)).k < 0 := by
    have := List.pairwise_iff_getElem.1 h.up 0 (l.length - 1) (by simp; omega) (by simp; omega) (by omega)
    simpa using this
  have h1 := h.ok _ (List.getElem_mem (show 0 < l.length by omega))
  have h2' := h.ok _ (List.getElem_mem (show l.length - 1 < l.length by omega))
  obtain ⟨n, g1, g2, g3⟩ := key_bits (a := (l[0]'(by omega)).k) (b := (l[l.length - 1]'(by omega)).k) ⟨h1.key, h1.r⟩ ⟨h2'.key, h2'.r⟩ hlt
  exact ⟨n, _, _, hx, hy, g1, g2, g3⟩
theorem PartB.unique {l : List Rw} {n m : Nat} (h : PartB l n) (g : PartB l m) : n = m := by
  obtain ⟨x, y, h1, h2, h3, _⟩ := h
  obtain ⟨x', y', g1, g2, g3, _⟩ := g
  rw [h1] at g1; cases g1
  rw [h2] at g2; cases g2
  exact h3.unique g3
/-- The first of the upper ones. -/
def partAt (l : List Rw) (n : Nat) : Nat := l.findIdx fun x => decide (bitS (kw x) n = 1)
theorem PartB.at {l : List Rw} {n : Nat} (h : PartB l n) : 0 < partAt l n ∧ partAt l n < l.length ∧ n < 80 := by
  obtain ⟨x, y, h1, h2, h3, h4, h5⟩ := h
  have hlt : partAt l n < l.length := List.findIdx_lt_length_of_exists ⟨y, List.mem_of_getElem? h2, by simpa using h5⟩
  refine ⟨?_, hlt, h3.1⟩
  rcases Nat.eq_zero_or_pos (partAt l n) with h0 | h0
  · exfalso
    have := List.findIdx_getElem (p := fun x => decide (bitS (kw x) n = 1)) (w := hlt)
    have e : l[List.findIdx (fun x => decide (bitS (kw x) n = 1)) l]'hlt = x := by
      have : l[partAt l n]? = some x := by rw [h0]; exact h1
      rw [List.getElem?_eq_getElem hlt] at this
      exact Option.some.inj this
    rw [e, h4] at this
    simp at this
  · exact h0

/-! ### differ -/
theorem xor8 {x y : Nat} (hx : x < 256) (hy : y < 256) : bXor .u8 (x : Int) (y : Int) = ((x ^^^ y : Nat) : Int) := by
  have hz : x ^^^ y < 2 ^ 8 := Nat.xor_lt_two_pow (by omega) (by omega)
  unfold bXor
  have e : (BitVec.ofInt (IntKind.u8).bits (x : Int) ^^^ BitVec.ofInt (IntKind.u8).bits (y : Int)).toNat = x ^^^ y := by
    rw [BitVec.toNat_xor, BitVec.toNat_ofInt, BitVec.toNat_ofInt]
    have e1 : ((x : Int) % ((2 ^ (IntKind.u8).bits : Nat) : Int)).toNat = x := by
      show ((x : Int) % 256).toNat = x
      omega
    have e2 : ((y : Int) % ((2 ^ (IntKind.u8).bits : Nat) : Int)).toNat = y := by
      show ((y : Int) % 256).toNat = y
      omega
    rw [e1, e2]
  rw [e, wrap_u8_eq]
  omega
theorem xor_one {p q : Nat} (h : p / 2 = q / 2) (hne : p ≠ q) : p ^^^ q = 1 := by
  apply Nat.eq_of_testBit_eq
  intro i
  cases i with
  | zero =>
    rw [Nat.testBit_xor, Nat.testBit_zero, Nat.testBit_zero, Nat.testBit_zero]
    have h1 := Nat.mod_two_eq_zero_or_one p
    have h2 := Nat.mod_two_eq_zero_or_one q
    rcases h1 with h1 | h1 <;> rcases h2 with h2 | h2 <;> simp [h1, h2] <;> omega
  | succ i =>
    rw [Nat.testBit_xor, Nat.testBit_succ, Nat.testBit_succ, Nat.testBit_succ, h]
    simp
theorem xor_top {x y s : Nat} (h1 : x / 2 ^ s ≠ y / 2 ^ s) (h2 : x / 2 ^ (s + 1) = y / 2 ^ (s + 1)) : (x ^^^ y) / 2 ^ s = 1 := by
  rw [← Nat.shiftRight_eq_div_pow, Nat.shiftRight_xor_distrib, Nat.shiftRight_eq_div_pow, Nat.shiftRight_eq_div_pow]
  refine xor_one ?_ h1
  rw [Nat.pow_succ, ← Nat.div_div_eq_div_mul, ← Nat.div_div_eq_div_mul] at h2
  exact h2
theorem lz_c (z s : Nat) (hz : z < 256) (hs : s < 8) (h : z / 2 ^ s = 1) (w : World) : Calls Tryd.prog 89 #[.int .u8 z] w fun e w' => e = .returned (.int .i64 ((7 - s : Nat) : Int)) ∧ w' = w := by
  refine c89 _ ?_
  unfold d89
  refine c92 _ ?_
  unfold d92
  refine ⟨by omega, ?_⟩
  rw [Int.toNat_natCast]
  generalize hT : (⟨_⟩ : ByteArray) = T
  have key : ∀ m : Fin 256, ∀ s : Fin 8, m.val / 2 ^ s.val = 1 → T[m.val]? = some (UInt8.ofNat (s.val + 1)) := by
    subst hT
    decide +kernel
  have hk := key ⟨z, hz⟩ ⟨s, hs⟩ h
  refine ⟨_, hk, _, rfl, ?_, rfl⟩
  have e : (UInt8.ofNat (s + 1)).toNat = s + 1 := by
    rw [UInt8.toNat_ofNat']
    omega
  rw [e, wrap_i64 (n := ((s + 1 : Nat) : Int)) (by omega) (by omega), wrap_i64 (by omega) (by omega)]
  congr 2
  omega
theorem differ_c (w : World) (A B : List Int) (a b : Option Addr) (ac bc : Nat) (hA : RSl w 1 a 10 ac (u8 A)) (hB : RSl w 1 b 10 bc (u8 B)) (hbA : Bytes A) (hbB : Bytes B) (n : Nat) (hF : Fst A B n) :
    Calls Tryd.prog 76 #[.slice a 10 ac, .slice b 10 bc] w fun e w' => e = .returned (.int .i64 (n : Int)) ∧ Tch [] w w' := by
  refine c76 _ _ _ _ _ _ ?_
  unfold d76
  refine ⟨fun m x u => ∃ i : Nat, x = i ∧ i ≤ 10 ∧ m = 10 - i ∧ Tch [] w u ∧ ∀ j, j < i → A.getD j 0 = B.getD j 0, ⟨10, 0, rfl, by omega, rfl, Tch.refl _ _, by omega⟩, ?_⟩
  rintro m w4 x ⟨i, rfl, hi, rfl, ht, heq⟩
  by_cases hi10 : i < 10
  rotate_left
  · exfalso
    have : n / 8 < 10 := by have := hF.1; omega
    refine hF.2.1 ?_
    have e : n = 8 * (n / 8) + n % 8 := by omega
    rw [e, bit_nat hbA (by omega), bit_nat hbB (by omega), heq _ (by omega)]
  rw [bif_pos (by omega)]
  rintro w6 rfl
  replace ht := ht.drew
  generalize w4.drew = w6 at *
  refine ⟨by omega, by omega, ?_⟩
  rw [Int.toNat_natCast]
  obtain ⟨b1, o1, rfl, c1⟩ := (hA.tch ht (fun _ _ h => by cases h)).int (i := i) (by omega)
  refine ⟨A.getD i 0, by rw [add_mk, Nat.mul_one]; exact c1, by omega, by omega, ?_⟩
  obtain ⟨b2, o2, rfl, c2⟩ := (hB.tch ht (fun _ _ h => by cases h)).int (i := i) (by omega)
  refine ⟨B.getD i 0, by rw [add_mk, Nat.mul_one]; exact c2, ?_⟩
  have hx := Lib.byte_of hbA i
  have hy := Lib.byte_of hbB i
  have hxe : A.getD i 0 = (((A.getD i 0).toNat : Nat) : Int) := by omega
  have hye : B.getD i 0 = (((B.getD i 0).toNat : Nat) : Int) := by omega
  have hxor : bXor .u8 (A.getD i 0) (B.getD i 0) = (((A.getD i 0).toNat ^^^ (B.getD i 0).toNat : Nat) : Int) := by
    have h := xor8 (x := (A.getD i 0).toNat) (y := (B.getD i 0).toNat) (by omega) (by omega)
    rwa [← hxe, ← hye] at h
  rw [hxor]
  by_cases hne : (A.getD i 0).toNat = (B.getD i 0).toNat
  · rw [hne, Nat.xor_self, bif_npos (by rfl)]
    refine ⟨10 - (i + 1), by omega, i + 1, by rw [wrap_i64 (by omega) (by omega)]; omega, by omega, rfl, ht, fun j hj => ?_⟩
    by_cases e : j = i
    · subst e; omega
    · exact heq j (by omega)
  · obtain ⟨s, g1, g2, g3⟩ := top_diff (x := (A.getD i 0).toNat) (y := (B.getD i 0).toNat) (by omega) (by omega) hne
    have hz := xor_top g2 (g3 (s + 1) (by omega))
    have hz256 : (A.getD i 0).toNat ^^^ (B.getD i 0).toNat < 2 ^ 8 := Nat.xor_lt_two_pow (by omega) (by omega)
    have hn : n = 8 * i + (7 - s) := hF.unique (fst_of hbA hbB hi10 heq g1 (by
      have h1 := g3 (s + 1) (by omega)
      rw [Nat.pow_succ, ← Nat.div_div_eq_div_mul, ← Nat.div_div_eq_div_mul] at h1
      omega) g3)
    generalize (A.getD i 0).toNat ^^^ (B.getD i 0).toNat = z at *
    have hz0 : z ≠ 0 := by
      rintro rfl
      rw [Nat.zero_div] at hz
      omega
    rw [bif_nneg (by omega)]
    refine (lz_c z s (by omega) g1 hz w6).mono ?_
    rintro e w12 ⟨rfl, rfl⟩
    refine ⟨_, rfl, ?_, ht⟩
    rw [wrap_i64 (n := 8 * (i : Int)) (by omega) (by omega), wrap_i64 (by omega) (by omega), hn]
    congr 2
end Go.Proofs.YtjkbjppopdfggaaDoor.Tre
namespace Go.Proofs.YtjkbjppopdfggaaDoor.Den
open Go
open Go.RowKit (Below)
open Classical
abbrev Ents := List (List Value × Value)
def entOf (e : List Value × Value) (m : MapEntry) : Prop := m.key = .agg e.1.toArray ∧ m.val = e.2
/-- A map's block, its entries in order. -/
def MapAt (w : World) (b : Nat) (es : Ents) : Prop := ∃ (arr : Array MapEntry) (clock : Nat), w.heap[b]? = some (.map arr clock) ∧ arr.toList.length = es.length ∧ ∀ (i : Nat) (m : MapEntry) (e : List Value × Value), arr.toList[i]? = some m → es[i]? = some e → entOf e m
theorem MapAt.lt {w : World} {b : Nat} {es : Ents} (h : MapAt w b es) : b < w.heap.size := by
  obtain ⟨arr, c, hb, _⟩ := h
  exact (Array.getElem?_eq_some_iff.1 hb).1
theorem MapAt.of_heap {w w' : World} {b : Nat} {es : Ents} (h : MapAt w b es) (he : w'.heap[b]? = w.heap[b]?) : MapAt w' b es := by
  obtain ⟨arr, c, hb, h⟩ := h
  exact ⟨arr, c, he.trans hb, h⟩
theorem MapAt.tch {s : List Nat} {w w' : World} {b : Nat} {es : Ents} (h : MapAt w b es) (ht : Tch s w w') (hb : b ∉ s) : MapAt w' b es := h.of_heap (ht.block b h.lt hb)
theorem MapAt.new (w : World) : MapAt (w.alloc (.map #[] 0)) w.heap.size [] := ⟨#[], 0, by show (w.heap.push _)[w.heap.size]? = _; simp, rfl, by simp⟩
noncomputable def mGet : Ents → List Value → Option Value
  | [], _ => none
  | e :: r, k => if e.1 = k then some e.2 else mGet r k
noncomputable def mDel : Ents → List Value → Ents
  | [], _ => []
  | e :: r, k => if e.1 = k then r else e :: mDel r k
/-- An entry is set, or comes. -/
noncomputable def mPut : Ents → List Value → Value → Ents
  | [], k, v => [(k, v)]
  | e :: r, k, v => if e.1 = k then (k, v) :: r else e :: mPut r k v
theorem mPut_none {v : Value} {k : List Value} : ∀ {es : Ents}, mGet es k = none → mPut es k v = es ++ [(k, v)]
  | [], _ => rfl
  | e :: r, h => by
    unfold mGet at h
    split at h
    · cases h
    · rename_i hn
      rw [mPut, if_neg hn, mPut_none h]
      rfl
theorem mPut_keys {v : Value} {k : List Value} : ∀ {es : Ents} {e : List Value × Value}, e ∈ mPut es k v → e.1 = k ∨ e ∈ es
  | [], e, h => by rw [mPut, List.mem_singleton] at h; exact .inl (by rw [h])
  | x :: r, e, h => by
    unfold mPut at h
    split at h
    · rcases List.mem_cons.1 h with rfl | h
      · exact .inl rfl
      · exact .inr (List.mem_cons_of_mem _ h)
    · rcases List.mem_cons.1 h with rfl | h
      · exact .inr (by simp)
      · exact (mPut_keys h).imp id (List.mem_cons_of_mem _)
/-- What a map's key type is asked. -/
structure MapT (P : Program) (t kt et : TypeId) (d : Nat) (ks : List FK) : Prop where
  map : P.underlying t = some (.map kt et)
  flat : flatK P d kt = some ks
  eqT : eqT P d kt = true
section
variable {P : Program} {t kt et : TypeId} {d : Nat} {ks : List FK}
theorem MapT.check (T : MapT P t kt et d ks) {xs : List Value} (hx : Fits ks xs) (em : Bool) (w : World) : (Instr.checkKey em 10000 kt (.agg xs.toArray)).run P w = .ok () w := by
  have hk := T.eqT
  unfold Den.eqT at hk
  simp only [Bool.and_eq_true, decide_eq_true_eq] at hk
  have h := run_checkKey_deep (P := P) em (10000 - d) d kt hk.1.1.1
  rw [show 10000 - d + d = 10000 by omega] at h
  refine h w d _ (xs.map litOf) (flat_cells T.flat T.eqT hx) ?_
  show P.keyLits d kt (xs.toArray).toList = _
  rw [List.toList_toArray]
  rcases lits_flat d kt ks T.flat xs with h | h | h
  · exact h.1
  · exact absurd hx h.2
  · exact absurd hx.length h
theorem MapT.wide (T : MapT P t kt et d ks) : (match P.underlying kt with | some (.array _ _) | some (.struct _) => true | _ => false) = true := by
  have hk := T.eqT
  unfold Den.eqT at hk
  simp only [Bool.and_eq_true] at hk
  exact hk.1.2
theorem MapT.asks (T : MapT P t kt et d ks) {xs : List Value} (hx : Fits ks xs) (w : World) : ∀ (ms : List MapEntry) (es : Ents) (i : Nat), ms.length = es.length → (∀ (j : Nat) (m : MapEntry) (e : List Value × Value), ms[j]? = some m → es[j]? = some e → entOf e m) → (∀ e ∈ es, Fits ks e.1) →
    (mGet es xs = none ∧ (Instr.findAsking kt (.agg xs.toArray) ms i).run P w = .ok none w ∧ mDel es xs = es) ∨
    ∃ j v, mGet es xs = some v ∧ (Instr.findAsking kt (.agg xs.toArray) ms i).run P w = .ok (some (i + j, v)) w ∧ j < ms.length ∧ mDel es xs = es.eraseIdx j ∧ es[j]? = some (xs, v) ∧ ∀ u, mPut es xs u = es.set j (xs, u)
  | [], [], i, _, _, _ => .inl ⟨rfl, by simp [Instr.findAsking], rfl⟩
  | [], _ :: _, _, h, _, _ => by simp at h
  | _ :: _, [], _, h, _, _ => by simp at h
  | m :: ms, e :: es, i, hl, he, hf => by
    obtain ⟨h1, h2⟩ := he 0 m e rfl rfl
    obtain ⟨r, hr, hiff⟩ := run_flat T.flat T.eqT hx (hf e (by simp)) w
    have hq : (Op.equal kt (.agg xs.toArray) m.key).run P w = .ok r w := by rw [h1]; exact hr
    by_cases hke : e.1 = xs
    · have hrt : r = true := hiff.2 hke.symm
      subst hrt
      refine .inr ⟨0, e.2, by simp [mGet, hke], ?_, by simp, by simp [mDel, hke], by rw [← hke]; rfl, fun u => by simp [mPut, hke]⟩
      simp [Instr.findAsking, hq, Result.andThen, h2]
    · have hrf : r = false := by
        cases r
        · rfl
        · exact absurd (hiff.1 rfl).symm hke
      subst hrf
      rcases MapT.asks T hx w ms es (i + 1) (by simpa using hl) (fun j m' e' hm' he' => he (j + 1) m' e' (by simpa using hm') (by simpa using he')) (fun e' h' => hf e' (by simp [h'])) with ⟨g1, g2, g3⟩ | ⟨j, v, g1, g2, g3, g4, g5, g6⟩
      · refine .inl ⟨by simp [mGet, hke, g1], ?_, by simp [mDel, hke, g3]⟩
        simp [Instr.findAsking, hq, Result.andThen, g2]
      · refine .inr ⟨j + 1, v, by simp [mGet, hke, g1], ?_, by simpa using g3, by simp [mDel, hke, g4], by simpa using g5, fun u => by simp [mPut, hke, g6]⟩
        simp [Instr.findAsking, hq, Result.andThen, g2]
        omega
theorem MapT.find (T : MapT P t kt et d ks) {xs : List Value} (hx : Fits ks xs) (w : World) {ms : List MapEntry} {es : Ents} (hl : ms.length = es.length) (he : ∀ (j : Nat) (m : MapEntry) (e : List Value × Value), ms[j]? = some m → es[j]? = some e → entOf e m) (hf : ∀ e ∈ es, Fits ks e.1) :
    (mGet es xs = none ∧ (Instr.findKey kt (.agg xs.toArray) ms).run P w = .ok none w ∧ mDel es xs = es) ∨
    ∃ j v, mGet es xs = some v ∧ (Instr.findKey kt (.agg xs.toArray) ms).run P w = .ok (some (j, v)) w ∧ j < ms.length ∧ mDel es xs = es.eraseIdx j ∧ es[j]? = some (xs, v) ∧ ∀ u, mPut es xs u = es.set j (xs, u) := by
  rw [run_findKey_eq w T.wide]
  rcases T.asks hx w ms es 0 hl he hf with h | ⟨j, v, h1, h2, h3⟩
  · exact .inl h
  · rw [Nat.zero_add] at h2
    exact .inr ⟨j, v, h1, h2, h3⟩
/-- What a lookup hands back. -/
noncomputable def mOk (o : Option Value) (z : Value) : Value := .tuple #[o.getD z, .bool o.isSome]
theorem MapT.lookup (T : MapT P t kt et d ks) {z : Value} (hz : ∀ w : World, (zeroValue et).run P w = .ok z w) {w : World} {b : Nat} {es : Ents} (h : MapAt w b es) (hf : ∀ e ∈ es, Fits ks e.1) {xs : List Value} (hx : Fits ks xs) :
    Sem.run P (Instr.lookup t (.map (some b)) (.agg xs.toArray) true) w = .ok (mOk (mGet es xs) z) w := by
  obtain ⟨arr, clock, hb, hl, he⟩ := h
  rcases T.find hx w hl he hf with ⟨h1, h2, _⟩ | ⟨j, v, h1, h2, _⟩
  · simp [Instr.lookup, run_underlying T.map, MapKept.run_getObj_map hb, T.check hx, h2, hz, h1, Result.andThen, mOk]
  · simp [Instr.lookup, run_underlying T.map, MapKept.run_getObj_map hb, T.check hx, h2, h1, Result.andThen, mOk]
theorem tch_put {w : World} {b : Nat} {o : Obj} : Tch [b] w { w with heap := w.heap.setIfInBounds b o } :=
  ⟨rfl, rfl, rfl, by simp, fun i _ hn => by
    have : b ≠ i := fun e => hn (by simp [e])
    simp [Array.getElem?_setIfInBounds_ne this]⟩
/-- A new entry. -/
theorem MapT.upd (T : MapT P t kt et d ks) {w : World} {b : Nat} {es : Ents} (h : MapAt w b es) (hf : ∀ e ∈ es, Fits ks e.1) {xs : List Value} (hx : Fits ks xs) (hno : mGet es xs = none) {v : Value} {K : World → Prop}
    (hK : ∀ w', MapAt w' b (es ++ [(xs, v)]) → Tch [b] w w' → K w') : RunU P (Instr.mapUpdate t (.map (some b)) (.agg xs.toArray) v) w K := by
  obtain ⟨arr, clock, hb, hl, he⟩ := h
  rcases T.find hx w hl he hf with ⟨h1, h2, _⟩ | ⟨j, v, h1, _⟩
  · refine ⟨_, by simp [Instr.mapUpdate, run_underlying T.map, MapKept.run_getObj_map hb, T.check hx, h2, MapKept.run_setObj_map _ hb, Result.andThen], hK _ ⟨arr.push { key := .agg xs.toArray, val := v, born := clock }, clock + 1, (MapKept.heap_set hb).1, by simp [← hl], fun i m e hm hi => ?_⟩ tch_put⟩
    rw [Array.toList_push, List.getElem?_append] at hm
    rw [List.getElem?_append, ← hl] at hi
    split at hm
    · rename_i hlt
      rw [if_pos hlt] at hi
      exact he i m e hm hi
    · rename_i hlt
      rw [if_neg hlt] at hi
      by_cases h0 : i - arr.toList.length = 0
      · rw [h0] at hm hi
        cases hm; cases hi
        exact ⟨rfl, rfl⟩
      · rw [List.getElem?_eq_none (by show 1 ≤ _; omega)] at hm
        cases hm
  · rw [hno] at h1; cases h1
theorem sameBits_flat {ks : List FK} : ∀ {xs : List Value}, Fits ks xs → ((xs.zip xs).all fun (x, y) => Instr.sameBits 9999 x y) = true := by
  induction ks with
  | nil => intro xs h; cases xs with
    | nil => rfl
    | cons _ _ => exact h.elim
  | cons k ks ih => intro xs h; cases xs with
    | nil => exact h.elim
    | cons x xs =>
      obtain ⟨h1, h2⟩ := h
      rw [List.zip_cons_cons, List.all_cons, ih h2, Bool.and_true]
      cases k <;> cases x <;> first | exact (show False from h1).elim | (simp [Instr.sameBits]; done) | (rename_i b; show (b == b) = true; obtain ⟨d⟩ := b; show (d == d) = true; simp)
/-- An entry is set, whether it was there or not. -/
theorem MapT.put (T : MapT P t kt et d ks) {w : World} {b : Nat} {es : Ents} (h : MapAt w b es) (hf : ∀ e ∈ es, Fits ks e.1) {xs : List Value} (hx : Fits ks xs) {v : Value} {K : World → Prop}
    (hK : ∀ w', MapAt w' b (mPut es xs v) → Tch [b] w w' → K w') : RunU P (Instr.mapUpdate t (.map (some b)) (.agg xs.toArray) v) w K := by
  cases hno : mGet es xs with
  | none => exact T.upd h hf hx hno fun w' h1 h2 => hK w' (by rw [mPut_none hno]; exact h1) h2
  | some u =>
    obtain ⟨arr, clock, hb, hl, he⟩ := h
    rcases T.find hx w hl he hf with ⟨h1, _⟩ | ⟨j, v', h1, h2, h3, _, h5, h6⟩
    · rw [hno] at h1; cases h1
    · have hjm : arr.toList[j]? = some (arr.toList[j]'h3) := List.getElem?_eq_getElem h3
      have hje := he j _ _ hjm h5
      have hkey : ((arr[j]?).map (·.key)).getD (.agg xs.toArray) = .agg xs.toArray := by
        rw [← Array.getElem?_toList, hjm]
        exact hje.1
      have hsb : Instr.sameBits 10000 (.agg xs.toArray) (.agg xs.toArray) = true := by
        show (xs.toArray.size == xs.toArray.size && (xs.toArray.toList.zip xs.toArray.toList).all fun (x, y) => Instr.sameBits 9999 x y) = true
        rw [List.toList_toArray, sameBits_flat hx]
        simp
      have hks : (Instr.keyThatStays (.agg xs.toArray) (.agg xs.toArray)).run P w = .ok (.agg xs.toArray) w := by
        unfold Instr.keyThatStays
        rw [if_pos hsb]
        rfl
      refine ⟨_, by simp [Instr.mapUpdate, run_underlying T.map, MapKept.run_getObj_map hb, T.check hx, h2, hkey, hks, MapKept.run_setObj_map _ hb, Result.andThen], hK _ ⟨arr.modify j fun e => { e with key := .agg xs.toArray, val := v }, clock, (MapKept.heap_set hb).1, ?_, ?_⟩ tch_put⟩
      · rw [h6, List.length_set, ← hl]; simp
      · intro i m e hm hi
        rw [h6, List.getElem?_set] at hi
        rw [Array.getElem?_toList, Array.getElem?_modify] at hm
        by_cases hij : j = i
        · rw [if_pos hij] at hi hm
          split at hi
          · cases hi
            rw [Option.map_eq_some_iff] at hm
            obtain ⟨m0, _, rfl⟩ := hm
            exact ⟨rfl, rfl⟩
          · cases hi
        · rw [if_neg hij] at hi hm
          exact he i m e (by rw [Array.getElem?_toList]; exact hm) hi
end
end Go.Proofs.YtjkbjppopdfggaaDoor.Den
namespace Go.Proofs.YtjkbjppopdfggaaDoor.Tre
open Go Den Fn Sha
open Go.RowKit (Below)
open Classical
set_option maxRecDepth 8000
set_option maxHeartbeats 2000000
inductive Tr where
  | leaf (x : Rw)
  | fork (bit : Nat) (l r : Tr)
def Tr.sum : Tr → List Int
  | .leaf x => sha (leafT x.t x.r x.v)
  | .fork n l r => sha (forkT (n : Int) l.sum r.sum)
def Tr.rows : Tr → List Rw
  | .leaf x => [x]
  | .fork _ l r => l.rows ++ r.rows
theorem Tr.sum_len (t : Tr) : t.sum.length = 32 := by cases t <;> exact sha_length _
theorem Tr.sum_bytes (t : Tr) : Bytes t.sum := by cases t <;> exact sha_bytes _
/-- The bit at which rows part. -/
noncomputable def partBit (l : List Rw) : Nat := if h : ∃ n, PartB l n then Classical.choose h else 0
theorem partBit_ok {l : List Rw} (h : RowsOk l) (h2 : 2 ≤ l.length) : PartB l (partBit l) := by
  unfold partBit
  rw [dif_pos (partB_ex h h2)]
  exact Classical.choose_spec (partB_ex h h2)
/-- The tree over rows. -/
noncomputable def treeS : Nat → List Rw → Tr
  | 0, _ => .leaf ⟨0, 0, 0⟩
  | k + 1, l => if l.length = 1 then .leaf (l.headD ⟨0, 0, 0⟩) else .fork (partBit l) (treeS k (l.take (partAt l (partBit l)))) (treeS k (l.drop (partAt l (partBit l))))
theorem treeS_rows : ∀ {k : Nat} {l : List Rw}, l.length ≤ k → 1 ≤ l.length → RowsOk l → (treeS k l).rows = l
  | 0, l, h1, h2, _ => by omega
  | k + 1, l, h1, h2, h => by
    unfold treeS
    by_cases e : l.length = 1
    · rw [if_pos e]
      obtain ⟨x, rfl⟩ := List.length_eq_one_iff.1 e
      rfl
    · rw [if_neg e]
      obtain ⟨g1, g2, _⟩ := (partBit_ok h (by omega)).at
      show (treeS k _).rows ++ (treeS k _).rows = l
      rw [treeS_rows (by rw [List.length_take]; omega) (by rw [List.length_take]; omega) (h.take _), treeS_rows (by rw [List.length_drop]; omega) (by rw [List.length_drop]; omega) (h.drop _)]
      exact List.take_append_drop _ _
/-- A tree's part in memory: its value; L: what it puts among the nodes, in order. -/
def PartAt (F : Nat → Prop) (w : World) : Value → Tr → List (List Int × Value) → Prop
  | v, .leaf x, L => ∃ b, v = .iface 146 (.pointer (some ⟨b, 0, none⟩)) ∧ F b ∧ Blk w b (rwC x ++ u8 (Tr.leaf x).sum) ∧ L = [((Tr.leaf x).sum, v)]
  | v, .fork n l r, L => ∃ b vl vr Ll Lr, v = .iface 151 (.pointer (some ⟨b, 0, none⟩)) ∧ F b ∧ Blk w b ([.int .i64 (n : Int), vl, vr] ++ u8 (Tr.fork n l r).sum) ∧ PartAt F w vl l Ll ∧ PartAt F w vr r Lr ∧ L = Ll ++ Lr ++ [((Tr.fork n l r).sum, v)]
theorem PartAt.tch {F : Nat → Prop} {w w' : World} {s : List Nat} (ht : Tch s w w') (hs : ∀ k ∈ s, ¬ F k) : ∀ {tr : Tr} {v : Value} {L : List (List Int × Value)}, PartAt F w v tr L → PartAt F w' v tr L
  | .leaf x, v, L, ⟨b, h1, h2, h3, h4⟩ => ⟨b, h1, h2, h3.tch ht fun hm => hs b hm h2, h4⟩
  | .fork n l r, v, L, ⟨b, vl, vr, Ll, Lr, h1, h2, h3, h4, h5, h6⟩ => ⟨b, vl, vr, Ll, Lr, h1, h2, h3.tch ht fun hm => hs b hm h2, PartAt.tch ht hs h4, PartAt.tch ht hs h5, h6⟩
theorem PartAt.mono {F G : Nat → Prop} {w : World} (hFG : ∀ k, F k → G k) : ∀ {tr : Tr} {v : Value} {L : List (List Int × Value)}, PartAt F w v tr L → PartAt G w v tr L
  | .leaf x, v, L, ⟨b, h1, h2, h3, h4⟩ => ⟨b, h1, hFG b h2, h3, h4⟩
  | .fork n l r, v, L, ⟨b, vl, vr, Ll, Lr, h1, h2, h3, h4, h5, h6⟩ => ⟨b, vl, vr, Ll, Lr, h1, hFG b h2, h3, PartAt.mono hFG h4, PartAt.mono hFG h5, h6⟩
theorem PartAt.shape {F : Nat → Prop} {w : World} {tr : Tr} {v : Value} {L : List (List Int × Value)} (h : PartAt F w v tr L) : ∃ b, (v = .iface 146 (.pointer (some ⟨b, 0, none⟩)) ∨ v = .iface 151 (.pointer (some ⟨b, 0, none⟩))) := by
  cases tr with
  | leaf x => obtain ⟨b, h, _⟩ := h; exact ⟨b, .inl h⟩
  | fork n l r => obtain ⟨b, _, _, _, _, h, _⟩ := h; exact ⟨b, .inr h⟩
/-! ### Methods -/
theorem mLeafDigest (v : Value) (w : World) : Sem.run Tryd.prog (method (Tryd.prog.types.size + Made.depth) 146 v "prelude/proof.digest") w = .ok (109, v) w := by kernel_rfl
theorem mForkDigest (v : Value) (w : World) : Sem.run Tryd.prog (method (Tryd.prog.types.size + Made.depth) 151 v "prelude/proof.digest") w = .ok (113, v) w := by kernel_rfl
theorem mLeafRows (v : Value) (w : World) : Sem.run Tryd.prog (method (Tryd.prog.types.size + Made.depth) 146 v "prelude/proof.rows") w = .ok (111, v) w := by kernel_rfl
theorem mForkRows (v : Value) (w : World) : Sem.run Tryd.prog (method (Tryd.prog.types.size + Made.depth) 151 v "prelude/proof.rows") w = .ok (115, v) w := by kernel_rfl
theorem leafDigest_c (w : World) (b : Nat) (x : Rw) (d : List Int) (hd : d.length = 32) (hb : Blk w b (rwC x ++ u8 d)) : Calls Tryd.prog 109 #[.pointer (some ⟨b, 0, none⟩)] w fun e w' => e = .returned (.agg (u8 d).toArray) ∧ Tch [] w w' := by
  refine c109 _ ?_
  unfold d109
  rintro w1 rfl
  have hO : Blk _ _ (u8 z32) := Blk.fresh w 24 zcDig
  have ht := (Tch.refl [] w).alloc (.cells (zc Tryd.prog 24).toArray 24)
  have s1 := size_alloc w (.cells (zc Tryd.prog 24).toArray 24)
  generalize w.alloc (.cells (zc Tryd.prog 24).toArray 24) = w1 at *
  refine get_part (hb.tch ht (by simp)) 3 32 (u8 d) (by show (u8 d).take 32 = _; exact List.take_of_length_le (by rw [List.length_map, hd]; exact Nat.le_refl _)) (by simpa using hd) ?_
  refine put_all (n := 32) hO rfl (by simpa using hd) ones_ints fun w4 k t _ => ?_
  exact get_all k (by simpa using hd) ⟨rfl, ht.trans t (by simp)⟩
theorem forkDigest_c (w : World) (b : Nat) (n : Int) (vl vr : Value) (d : List Int) (hd : d.length = 32) (hb : Blk w b ([.int .i64 n, vl, vr] ++ u8 d)) : Calls Tryd.prog 113 #[.pointer (some ⟨b, 0, none⟩)] w fun e w' => e = .returned (.agg (u8 d).toArray) ∧ Tch [] w w' := by
  refine c113 _ ?_
  unfold d113
  rintro w1 rfl
  have hO : Blk _ _ (u8 z32) := Blk.fresh w 24 zcDig
  have ht := (Tch.refl [] w).alloc (.cells (zc Tryd.prog 24).toArray 24)
  have s1 := size_alloc w (.cells (zc Tryd.prog 24).toArray 24)
  generalize w.alloc (.cells (zc Tryd.prog 24).toArray 24) = w1 at *
  refine get_part (hb.tch ht (by simp)) 3 32 (u8 d) (by show (u8 d).take 32 = _; exact List.take_of_length_le (by rw [List.length_map, hd]; exact Nat.le_refl _)) (by simpa using hd) ?_
  refine put_all (n := 32) hO rfl (by simpa using hd) ones_ints fun w4 k t _ => ?_
  exact get_all k (by simpa using hd) ⟨rfl, ht.trans t (by simp)⟩
/-- digest, through the interface. -/
theorem digest_k {F : Nat → Prop} {w : World} {v : Value} {tr : Tr} {L : List (List Int × Value)} (h : PartAt F w v tr L) {K : Array Value → World → Prop} (hK : ∀ w', Tch [] w w' → K (u8 tr.sum).toArray w') :
    ∃ t u g r, v = .iface t u ∧ Sem.run Tryd.prog (method (Tryd.prog.types.size + Made.depth) t u "prelude/proof.digest") w = .ok (g, r) w ∧ HasBody Tryd.prog g ∧ Calls Tryd.prog g (#[r] ++ #[]) w fun e w' => ∃ x : Array Value, e = .returned (.agg x) ∧ K x w' := by
  cases tr with
  | leaf x =>
    obtain ⟨b, rfl, _, hb, _⟩ := h
    refine ⟨_, _, _, _, rfl, mLeafDigest _ w, hasBody_spec (by kernel_rfl), ?_⟩
    refine (leafDigest_c w b x _ (Tr.sum_len _) hb).mono ?_
    rintro e w' ⟨rfl, ht⟩
    exact ⟨_, rfl, hK w' ht⟩
  | fork n l r =>
    obtain ⟨b, vl, vr, _, _, rfl, _, hb, _⟩ := h
    refine ⟨_, _, _, _, rfl, mForkDigest _ w, hasBody_spec (by kernel_rfl), ?_⟩
    refine (forkDigest_c w b n vl vr _ (Tr.sum_len _) hb).mono ?_
    rintro e w' ⟨rfl, ht⟩
    exact ⟨_, rfl, hK w' ht⟩
/-! ### Forms; IndexFunc -/
/-- The bytes of rows' keys, in memory. -/
def FormsAt (w : World) (a : Option Addr) (c : Nat) (l : List Rw) : Prop := ∃ vs : List Value, RSl w 1 a l.length c vs ∧ ∀ (i : Nat) (x : Rw), l[i]? = some x → ∃ b d, vs[i]? = some (.slice b 10 d) ∧ RSl w 1 b 10 d (u8 (kw x))
theorem FormsAt.quiet {w w' : World} {a : Option Addr} {c : Nat} {l : List Rw} (h : FormsAt w a c l) (ht : Tch [] w w') : FormsAt w' a c l := by
  obtain ⟨vs, h1, h2⟩ := h
  refine ⟨vs, h1.tch ht (fun _ _ h => by cases h), fun i x hx => ?_⟩
  obtain ⟨b, d, g1, g2⟩ := h2 i x hx
  exact ⟨b, d, g1, g2.tch ht (fun _ _ h => by cases h)⟩
theorem FormsAt.get {w : World} {y : Addr} {c : Nat} {l : List Rw} (h : FormsAt w (some y) c l) {i : Nat} {x : Rw} (hx : l[i]? = some x) : ∃ b d, World.cell? w (Addr.add y (i * 1)) = some (.slice b 10 d) ∧ RSl w 1 b 10 d (u8 (kw x)) := by
  obtain ⟨vs, h1, h2⟩ := h
  obtain ⟨b, d, g1, g2⟩ := h2 i x hx
  refine ⟨b, d, ?_, g2⟩
  have hil := (List.getElem?_eq_some_iff.1 hx).1
  obtain ⟨b', o', e, hc⟩ := h1.get (i := i) hil (by omega)
  cases e
  have hlen : vs.length = l.length := by have := h1.len; simpa using this
  have := hc 0 (.slice b 10 d) (by
    rw [List.getElem?_take, if_pos (by omega), List.getElem?_drop, Nat.mul_one, Nat.add_zero]
    exact g1)
  rw [add_mk] at this ⊢
  simpa using this
theorem FormsAt.none {w : World} {c : Nat} {l : List Rw} (h : FormsAt w none c l) : l.length = 0 := by
  obtain ⟨vs, h1, _⟩ := h
  rcases h1.at' with h' | ⟨b, o, hb, _⟩
  · have := h1.cap; omega
  · cases hb
theorem indexFunc_c (w : World) (l : List Rw) (a : Option Addr) (c : Nat) (hf : FormsAt w a c l) (n : Nat) (nb : Nat) (hb : Blk w nb [.int .i64 (n : Int)]) (hn : n < 80) (hlt : partAt l n < l.length) (hl : l.length ≤ 1000000000000) :
    Calls Tryd.prog 77 #[.slice a l.length c, .func (.func 78) #[] #[.pointer (some ⟨nb, 0, none⟩)]] w fun e w' => e = .returned (.int .i64 ((partAt l n : Nat) : Int)) ∧ w' = w := by
  refine c77 _ _ _ _ ?_
  unfold d77
  refine ⟨fun m x u => ∃ i : Nat, x = i ∧ i ≤ partAt l n ∧ m = l.length - i ∧ u = w, ⟨_, 0, rfl, by omega, rfl, rfl⟩, ?_⟩
  rintro m w4 x ⟨i, rfl, hi, rfl, rfl⟩
  rw [bif_pos (by omega)]
  refine ⟨by omega, by omega, ?_⟩
  rw [Int.toNat_natCast]
  have hix : l[i]? = some (l[i]'(by omega)) := List.getElem?_eq_getElem (by omega)
  cases a with
  | none => have := hf.none; omega
  | some y =>
    obtain ⟨b, d, g1, g2⟩ := hf.get hix
    refine ⟨b, 10, d, g1, hasBody_spec (by kernel_rfl), ?_⟩
    show Calls _ _ #[.slice b 10 d, .pointer (some ⟨nb, 0, none⟩)] w4 _
    refine c78 _ _ _ _ ?_
    unfold d78
    refine ⟨(n : Int), hb.cell 0, ?_⟩
    refine (bit_c w4 b d _ (n : Int) g2 ⟨by omega, by omega⟩).mono ?_
    rintro e w5 ⟨rfl, rfl⟩
    refine ⟨_, rfl, _, rfl, ?_⟩
    by_cases h1 : bitS (kw (l[i]'(by omega))) (n : Int) = 1
    · rw [bif_pos h1]
      refine ⟨?_, rfl⟩
      have : partAt l n ≤ i := by
        rcases Nat.lt_or_ge i (partAt l n) with h | h
        · have := List.not_of_lt_findIdx h
          simp [h1] at this
        · exact h
      rw [show i = partAt l n by omega]
    · rw [bif_neg h1]
      have hne : i ≠ partAt l n := by
        rintro rfl
        have := List.findIdx_getElem (p := fun x => decide (bitS (kw x) n = 1)) (w := hlt)
        exact h1 (of_decide_eq_true this)
      exact ⟨l.length - (i + 1), by omega, i + 1, by rw [wrap_i64 (by omega) (by omega)]; omega, by omega, rfl, rfl⟩
end Go.Proofs.YtjkbjppopdfggaaDoor.Tre
namespace Go.Proofs.YtjkbjppopdfggaaDoor.Den
open Go Go.RowKit
/-- A function's outermost sequence. -/
inductive T where
  | last (s : S)
  | seq (a : S) (t : T)
  | join (sl : List (Nat × Ty)) (ks : List Nat) (a : S) (t : T)
  | rf (g : Operand) (ps : List (Nat × Ty)) (sl : List (Nat × Ty)) (ks : List Nat) (sa sb : S) (t : T)
/-- What turns is no cells, and lies at or beyond B. -/
def NoCells (B : Nat) (s : List Nat) (W : World) : Prop := ∀ k ∈ s, B ≤ k ∧ ∃ o : Obj, W.heap[k]? = some o ∧ o.isCells = false
/-- This is no matter. -/
def Stable {α : Type} (B : Nat) (I : α → World → Prop) : Prop := ∀ (x : α) (W W' : World) (s : List Nat), I x W → Tch s W W' → NoCells B s W → I x W'
def StableF (B : Nat) : (ts : List Ty) → Fn ts → Prop
  | [], J => ∀ (W W' : World) (s : List Nat), J W → Tch s W W' → NoCells B s W → J W'
  | .int _ :: ts, J => ∀ n, StableF B ts (J n)
  | .bool :: ts, J => ∀ b, StableF B ts (J b)
  | .str :: ts, J => ∀ s, StableF B ts (J s)
  | .sl :: ts, J => ∀ a n c, StableF B ts (J a n c)
  | .ptr :: ts, J => ∀ a, StableF B ts (J a)
  | .mp :: ts, J => ∀ r, StableF B ts (J r)
  | .agg :: ts, J => ∀ cs, StableF B ts (J cs)
  | .any :: ts, J => ∀ v, StableF B ts (J v)
/-- A sequence's parts. -/
def flat : Code → List Code
  | .seq a b => flat a ++ flat b
  | c => [c]
/-! ### It is right -/
theorem grown_tch {W W' : World} {row : Option Nat} (h : W.grownBy W' row) : Tch row.toList W W' :=
  ⟨h.os, h.tape, h.output, h.size, fun k hk hn => h.block k hk (fun e => hn (by simp [← e]))⟩
theorem noCells_row {B : Nat} {W : World} {row : Option Nat} (hr : ∀ r, row = some r → B ≤ r ∧ ∃ o : Obj, W.heap[r]? = some o ∧ o.isCells = false) : NoCells B row.toList W := fun k hk => by
  cases row with
  | none => simp at hk
  | some r => simp at hk; subst hk; exact hr k rfl
theorem Stable.own {α : Type} {B : Nat} {I : α → World → Prop} (h : Stable B I) : OwnFrom B I := fun x W W' row hs hg hr => h x W W' _ hs (grown_tch hg) (noCells_row hr)
theorem StableF.app {B : Nat} : ∀ {ts : List Ty} {J : Fn ts} {vs : List Value} {W W' : World} {s : List Nat}, StableF B ts J → Den.app ts J vs W → Tch s W W' → NoCells B s W → Den.app ts J vs W'
  | [], _, [], _, _, _, h, ha, ht, hn => h _ _ _ ha ht hn
  | [], _, _ :: _, _, _, _, _, ha, _, _ => ha.elim
  | t :: ts, J, [], _, _, _, _, ha, _, _ => by cases t <;> exact (show False from ha).elim
  | t :: ts, J, v :: vs, W, W', s, h, ha, ht, hn => by
    cases t
    case any => exact StableF.app (ts := ts) (J := J v) (h v) ha ht hn
    all_goals cases v <;> first | exact (show False from ha).elim | skip
    case int.int k k' n =>
      have ha' : (bif same k' k then Den.app ts (J n) vs W else False) := ha
      show bif same k' k then Den.app ts (J n) vs W' else False
      cases hs : same k' k
      · rw [hs] at ha'; exact ha'.elim
      · rw [hs] at ha'; exact StableF.app (ts := ts) (J := J n) (h n) ha' ht hn
    case sl.slice a n c => exact StableF.app (ts := ts) (J := J a n c) (h a n c) ha ht hn
    all_goals exact StableF.app (ts := ts) (h _) ha ht hn
section
variable {P : Program} {pn : List Nat} {rs : List Res} {R : Ending → World → Prop} {fn : Func}
end
end Go.Proofs.YtjkbjppopdfggaaDoor.Den
set_option maxRecDepth 100000
namespace Go.Proofs.YtjkbjppopdfggaaDoor.Fn
open Go Den
/-- slices.Backward[[]prelude/api.Fork,prelude/api.Fork]$1 -/
def s88 : S := (.seq (.ops [⟨(some 4), (.ld1 (.tmp 1)), .sl, none⟩,
  ⟨(some 5), (.len (.tmp 4)), (.int .i64), none⟩,
  ⟨(some 6), (.bin .sub (.tmp 5) (.const (.int .i64 1))), (.int .i64), none⟩,
  ⟨(some 3), (.mv (.tmp 6)), (.int .i64), none⟩] [3, 0, 1])
 (.block 0
 (.loop [(3, (.int .i64))] [0, 1]
 (.seq (.seq (.ops [⟨(some 7), (.mv (.tmp 3)), (.int .i64), none⟩,
  ⟨(some 8), (.bin .geq (.tmp 7) (.const (.int .i64 0))), .bool, none⟩] [8, 0, 3, 1])
 (.cond (.tmp 8)
 .skip
 (.exit 0)))
 (.seq (.block 1
 (.seq (.ops [⟨(some 11), (.mv (.tmp 0)), .any, none⟩,
  ⟨(some 12), (.mv (.tmp 3)), (.int .i64), none⟩,
  ⟨(some 13), (.ld1 (.tmp 1)), .sl, none⟩,
  ⟨(some 14), (.mv (.tmp 3)), (.int .i64), none⟩,
  ⟨(some 15), (.ia 33 (.tmp 13) (.tmp 14)), .ptr, none⟩,
  ⟨(some 16), (.ldN 33 (.tmp 15)), .agg, none⟩,
  ⟨(some 17), (.callv (.tmp 11) [(.tmp 12), (.tmp 16)] [.bool]), .bool, none⟩,
  ⟨(some 18), (.un .not (.tmp 17)), .bool, none⟩] [18, 3, 0, 1])
 (.cond (.tmp 18)
 .ret
 .skip)))
 (.ops [⟨(some 9), (.mv (.tmp 3)), (.int .i64), none⟩,
  ⟨(some 10), (.bin .sub (.tmp 9) (.const (.int .i64 1))), (.int .i64), none⟩,
  ⟨(some 3), (.mv (.tmp 10)), (.int .i64), none⟩] [3, 0, 1]))))))
end Go.Proofs.YtjkbjppopdfggaaDoor.Fn
set_option maxRecDepth 100000
namespace Go.Proofs.YtjkbjppopdfggaaDoor.Fn
open Go Den
/-- prelude/proof.holds -/
def s56 : Den.T := (.seq (.ops [⟨(some 3), (.box 24 (.tmp 0)), .ptr, none⟩,
  ⟨(some 4), (.box 22 (.tmp 1)), .ptr, none⟩,
  ⟨(some 5), (.box 43 (.tmp 2)), .ptr, none⟩,
  ⟨(some 6), (.alloc 4), .ptr, none⟩] [5, 6, 3, 4])
 (.seq (.ops [⟨(some 14), (.fa 0 (.tmp 5)), .ptr, none⟩,
  ⟨(some 15), (.ld1 (.tmp 14)), .sl, none⟩,
  ⟨(some 16), (.len (.tmp 15)), (.int .i64), none⟩,
  ⟨(some 17), (.mv (.const (.int .i64 0))), (.int .i64), none⟩] [17, 16, 15, 5, 6, 3, 4])
 (.seq (.block 0
 (.loop [(17, (.int .i64))] [3, 4, 5, 6, 15, 16]
 (.seq (.ops [⟨(some 18), (.bin .lss (.tmp 17) (.tmp 16)), .any, none⟩] [18, 17, 15, 5, 6, 16, 3, 4])
 (.seq (.cond (.tmp 18)
 .skip
 (.exit 0))
 (.seq (.block 1
 (.seq (.ops [⟨(some 19), (.mv (.tmp 17)), (.int .i64), none⟩,
  ⟨(some 20), (.ia 33 (.tmp 15) (.tmp 17)), .ptr, none⟩,
  ⟨(some 21), (.ldN 33 (.tmp 20)), .agg, none⟩,
  ⟨(some 8), (.alloc 51), .ptr, none⟩,
  ⟨(some 7), (.mv (.tmp 19)), (.int .i64), none⟩,
  ⟨none, (.stN 33 (.tmp 8) (.tmp 21)), .any, none⟩] [8, 7, 5, 6, 17, 16, 15, 3, 4])
 (.seq (.draw (.take 0 ⟨(some 22), (.fa 0 (.tmp 8)), .ptr, none⟩
  (.take 1 ⟨(some 23), (.ld1 (.tmp 22)), (.int .i64), none⟩
  (.go 2 ⟨(some 24), (.call 52 [(.tmp 23)] [.bool]), .bool, none⟩ []
  (.take 3 ⟨(some 25), (.un .not (.tmp 24)), .bool, none⟩
  (.take 4 ⟨(some 26), (.mv (.tmp 25)), .bool, none⟩
  (.take 5 ⟨(some 27), (.mv (.tmp 7)), (.int .i64), (some (26, false))⟩
  (.take 6 ⟨(some 28), (.bin .gtr (.tmp 27) (.const (.int .i64 0))), .bool, (some (26, false))⟩
  (.take 7 ⟨(some 29), (.mv (.tmp 28)), .bool, (some (26, false))⟩
  (.take 8 ⟨(some 30), (.fa 0 (.tmp 5)), .ptr, (some (29, true))⟩
  (.take 9 ⟨(some 31), (.ld1 (.tmp 30)), .sl, (some (29, true))⟩
  (.take 10 ⟨(some 32), (.mv (.tmp 7)), (.int .i64), (some (29, true))⟩
  (.take 11 ⟨(some 33), (.bin .sub (.tmp 32) (.const (.int .i64 1))), (.int .i64), (some (29, true))⟩
  (.take 12 ⟨(some 34), (.ia 33 (.tmp 31) (.tmp 33)), .ptr, (some (29, true))⟩
  (.take 13 ⟨(some 35), (.fa 0 (.tmp 34)), .ptr, (some (29, true))⟩
  (.take 14 ⟨(some 36), (.ld1 (.tmp 35)), (.int .i64), (some (29, true))⟩
  (.take 15 ⟨(some 37), (.fa 0 (.tmp 8)), .ptr, (some (29, true))⟩
  (.take 16 ⟨(some 38), (.ld1 (.tmp 37)), (.int .i64), (some (29, true))⟩
  (.take 17 ⟨(some 39), (.bin .geq (.tmp 36) (.tmp 38)), .bool, (some (29, true))⟩
  (.take 18 ⟨(some 40), (.pick (.tmp 29) (.tmp 39) (.const (.bool false))), .bool, (some (26, false))⟩
  (.take 19 ⟨(some 41), (.pick (.tmp 26) (.const (.bool true)) (.tmp 40)), .bool, none⟩
  .done)))))))))))))))))))) [41, 6, 17, 16, 15, 5, 3, 4])
 (.cond (.tmp 41)
 (.seq (.ops [⟨none, (.st1 (.tmp 6) (.const (.bool false))), .any, none⟩] [6])
 .ret)
 .skip))))
 (.ops [⟨(some 42), (.bin .add (.tmp 17) (.const (.int .i64 1))), (.int .i64), none⟩,
  ⟨(some 17), (.mv (.tmp 42)), (.int .i64), none⟩] [17, 16, 15, 5, 6, 3, 4]))))))
 (.seq (.ops [⟨(some 43), (.fa 1 (.tmp 5)), .ptr, none⟩,
  ⟨(some 44), (.ld1 (.tmp 43)), .bool, none⟩,
  ⟨(some 45), (.un .not (.tmp 44)), .bool, none⟩] [45, 5, 3, 6, 4])
 (.seq (.cond (.tmp 45)
 (.seq (.ops [⟨(some 46), (.fa 0 (.tmp 5)), .ptr, none⟩,
  ⟨(some 47), (.ld1 (.tmp 46)), .sl, none⟩,
  ⟨(some 48), (.len (.tmp 47)), (.int .i64), none⟩,
  ⟨(some 49), (.bin .eql (.tmp 48) (.const (.int .i64 0))), .bool, none⟩,
  ⟨(some 50), (.mv (.tmp 49)), .bool, none⟩,
  ⟨(some 51), (.fa 2 (.tmp 5)), .ptr, (some (50, true))⟩,
  ⟨(some 52), (.ldN 3 (.tmp 51)), .agg, (some (50, true))⟩,
  ⟨(some 53), (.bld 31 (.fields [(0, 2), (2, 1)]) []), .agg, (some (50, true))⟩,
  ⟨(some 54), (.eqG .eql 31 (.tmp 52) (.tmp 53)), .bool, (some (50, true))⟩,
  ⟨(some 55), (.pick (.tmp 50) (.tmp 54) (.const (.bool false))), .bool, none⟩,
  ⟨(some 56), (.mv (.tmp 55)), .bool, none⟩,
  ⟨(some 57), (.ldN 32 (.tmp 3)), .agg, (some (56, true))⟩,
  ⟨(some 58), (.bld 24 (.elems 1) []), .agg, (some (56, true))⟩,
  ⟨(some 59), (.eqG .eql 24 (.tmp 57) (.tmp 58)), .bool, (some (56, true))⟩,
  ⟨(some 60), (.pick (.tmp 56) (.tmp 59) (.const (.bool false))), .bool, none⟩,
  ⟨none, (.st1 (.tmp 6) (.tmp 60)), .any, none⟩] [6])
 .ret)
 .skip)
 (.seq (.ops [⟨(some 62), (.fa 2 (.tmp 5)), .ptr, none⟩,
  ⟨(some 63), (.fa 0 (.tmp 62)), .ptr, none⟩,
  ⟨(some 64), (.ldN 2 (.tmp 63)), .agg, none⟩,
  ⟨(some 65), (.call 55 [(.tmp 64)] [.sl, (.int .i64)]), .any, none⟩,
  ⟨(some 61), (.mv (.tmp 65)), .any, none⟩,
  ⟨(some 66), (.ext 0 (.tmp 61)), .sl, none⟩,
  ⟨(some 67), (.ext 1 (.tmp 61)), (.int .i64), none⟩,
  ⟨(some 9), (.alloc 22), .ptr, none⟩,
  ⟨none, (.st1 (.tmp 9) (.tmp 66)), .any, none⟩,
  ⟨(some 10), (.mv (.tmp 67)), (.int .i64), none⟩] [10, 6, 5, 9, 4, 3])
 (.seq (.ops [⟨(some 68), (.mv (.tmp 10)), (.int .i64), none⟩,
  ⟨(some 69), (.bin .neq (.tmp 68) (.const (.int .i64 0))), .bool, none⟩] [69, 6, 5, 9, 4, 3])
 (.seq (.cond (.tmp 69)
 (.seq (.ops [⟨none, (.st1 (.tmp 6) (.const (.bool false))), .any, none⟩] [6])
 .ret)
 .skip)
 (.seq (.ops [⟨(some 70), (.fa 2 (.tmp 5)), .ptr, none⟩,
  ⟨(some 71), (.ldN 3 (.tmp 70)), .agg, none⟩,
  ⟨(some 72), (.call 51 [(.tmp 71)] [.agg]), .agg, none⟩,
  ⟨(some 11), (.alloc 24), .ptr, none⟩,
  ⟨none, (.stN 32 (.tmp 11) (.tmp 72)), .any, none⟩] [5, 9, 4, 6, 11, 3])
 (.seq (.ops [⟨(some 73), (.fa 0 (.tmp 5)), .ptr, none⟩,
  ⟨(some 74), (.ld1 (.tmp 73)), .sl, none⟩,
  ⟨(some 75), (.call 74 [(.tmp 74)] [.any]), .any, none⟩] [75, 9, 4, 6, 11, 3])
 (.rf (.tmp 75) [(76, (.int .i64)), (77, .agg)] [(13, .ptr)] [4, 6, 9, 11]
 (.ops [⟨(some 13), (.alloc 51), .ptr, none⟩,
  ⟨none, (.stN 33 (.tmp 13) (.tmp 77)), .any, none⟩] [9, 13, 4, 6, 11])
 (.block 3
 (.seq (.seq (.draw (.take 0 ⟨(some 78), (.ld1 (.tmp 9)), .sl, none⟩
  (.take 1 ⟨(some 79), (.fa 0 (.tmp 13)), .ptr, none⟩
  (.take 2 ⟨(some 80), (.ld1 (.tmp 79)), (.int .i64), none⟩
  (.take 4 ⟨(some 82), (.ld1 (.tmp 4)), .sl, none⟩
  (.take 5 ⟨(some 83), (.fa 0 (.tmp 13)), .ptr, none⟩
  (.take 6 ⟨(some 84), (.ld1 (.tmp 83)), (.int .i64), none⟩
  (.go 3 ⟨(some 81), (.call 75 [(.tmp 78), (.tmp 80)] [(.int .u8)]), (.int .u8), none⟩ [(6, ⟨(some 84), (.ld1 (.tmp 83)), (.int .i64), none⟩), (4, ⟨(some 82), (.ld1 (.tmp 4)), .sl, none⟩)]
  (.go 7 ⟨(some 85), (.call 75 [(.tmp 82), (.tmp 84)] [(.int .u8)]), (.int .u8), none⟩ []
  (.take 8 ⟨(some 86), (.bin .neq (.tmp 81) (.tmp 85)), .bool, none⟩
  .done))))))))) [86, 6, 4, 13, 11])
 (.cond (.tmp 86)
 (.seq (.ops [⟨none, (.st1 (.tmp 6) (.const (.bool false))), .any, none⟩] [])
 .ret)
 .skip))
 (.seq (.ops [⟨(some 87), (.ld1 (.tmp 4)), .sl, none⟩,
  ⟨(some 88), (.fa 0 (.tmp 13)), .ptr, none⟩,
  ⟨(some 89), (.ld1 (.tmp 88)), (.int .i64), none⟩,
  ⟨(some 90), (.call 75 [(.tmp 87), (.tmp 89)] [(.int .u8)]), (.int .u8), none⟩,
  ⟨(some 91), (.bin .eql (.tmp 90) (.const (.int .u8 0))), .bool, none⟩] [91, 13, 11])
 (.cond (.tmp 91)
 (.ops [⟨(some 92), (.fa 0 (.tmp 13)), .ptr, none⟩,
  ⟨(some 93), (.ld1 (.tmp 92)), (.int .i64), none⟩,
  ⟨(some 94), (.ldN 32 (.tmp 11)), .agg, none⟩,
  ⟨(some 95), (.fa 1 (.tmp 13)), .ptr, none⟩,
  ⟨(some 96), (.ldN 32 (.tmp 95)), .agg, none⟩,
  ⟨(some 97), (.call 53 [(.tmp 93), (.tmp 94), (.tmp 96)] [.agg]), .agg, none⟩,
  ⟨none, (.stN 32 (.tmp 11) (.tmp 97)), .any, none⟩] [])
 (.ops [⟨(some 98), (.fa 0 (.tmp 13)), .ptr, none⟩,
  ⟨(some 99), (.ld1 (.tmp 98)), (.int .i64), none⟩,
  ⟨(some 100), (.fa 1 (.tmp 13)), .ptr, none⟩,
  ⟨(some 101), (.ldN 32 (.tmp 100)), .agg, none⟩,
  ⟨(some 102), (.ldN 32 (.tmp 11)), .agg, none⟩,
  ⟨(some 103), (.call 53 [(.tmp 99), (.tmp 101), (.tmp 102)] [.agg]), .agg, none⟩,
  ⟨none, (.stN 32 (.tmp 11) (.tmp 103)), .any, none⟩] [])))))
 (.seq (.ops [⟨(some 104), (.ldN 32 (.tmp 11)), .agg, none⟩,
  ⟨(some 105), (.ldN 32 (.tmp 3)), .agg, none⟩,
  ⟨(some 106), (.eqG .eql 24 (.tmp 104) (.tmp 105)), .bool, none⟩,
  ⟨none, (.st1 (.tmp 6) (.tmp 106)), .any, none⟩] [6])
 (.last .ret)))))))))))))
def r56 : List Res := [.c1 6 .bool]
end Go.Proofs.YtjkbjppopdfggaaDoor.Fn
namespace Go.Proofs.YtjkbjppopdfggaaDoor.Sha
open Go Den Fn
open Go.RowKit (Below)
open Classical
set_option maxRecDepth 8000
set_option maxHeartbeats 4000000
theorem key_flat : flatK Tryd.prog 6 29 = some [.int .i64, .int .i64] := by kernel_rfl
theorem key_eqT : eqT Tryd.prog 6 29 = true := by kernel_rfl
theorem key_fits {t r : Int} (ht : I64 t) (hr : I64 r) : Fits [.int .i64, .int .i64] (keyC t r) := ⟨⟨rfl, i64_wf.2 ht⟩, ⟨rfl, i64_wf.2 hr⟩, trivial⟩
end Go.Proofs.YtjkbjppopdfggaaDoor.Sha
namespace Go.Proofs.YtjkbjppopdfggaaDoor.Sha
open Go Den Fn
open Go.RowKit (Below)
open Classical
set_option maxRecDepth 8000
set_option maxHeartbeats 4000000
/-- The same, for the first ones. -/
def SameU (a b : List Int) (fs : List Fk) (n : Nat) : Prop := ∀ (i : Nat) (f : Fk), i < n → fs[i]? = some f → bitS a f.bit = bitS b f.bit
theorem SameU.succ {a b : List Int} {fs : List Fk} {n : Nat} (h : SameU a b fs n) {f : Fk} (hf : fs[n]? = some f) (h1 : bitS a f.bit = bitS b f.bit) : SameU a b fs (n + 1) := fun i x hi hx => by
  by_cases e : i = n
  · subst e
    rw [hf] at hx
    cases hx
    exact h1
  · exact h i x (by omega) hx
end Go.Proofs.YtjkbjppopdfggaaDoor.Sha
namespace Go.Proofs.YtjkbjppopdfggaaDoor.Sha
open Go Den Fn
open Go.RowKit (Below)
open Classical
set_option maxRecDepth 8000
set_option maxHeartbeats 4000000
theorem bit01 : ∀ m : Fin 256, bAnd .u8 (m.val : Int) 1 = 0 ∨ bAnd .u8 (m.val : Int) 1 = 1 := by decide +kernel
theorem bitS_01 {kb : List Int} (hB : Bytes kb) {n : Int} (hn : Rk n) : bitS kb n = 0 ∨ bitS kb n = 1 := by
  obtain ⟨_, _, g1, g2, g3, g4⟩ := tdm hn
  have hx : 0 ≤ kb.getD (n / 8).toNat 0 ∧ kb.getD (n / 8).toNat 0 < 256 := by
    rw [List.getD_eq_getElem?_getD]
    cases h : kb[(n / 8).toNat]? with
    | none => simp
    | some x => exact hB x (List.mem_of_getElem? h)
  obtain ⟨h1, h2⟩ := shR_u8 hx.1 hx.2 (y := 7 - n % 8) (by omega)
  unfold bitS
  generalize shR .u8 (kb.getD (n / 8).toNat 0) (7 - n % 8) = z at *
  obtain ⟨m, rfl⟩ := Int.eq_ofNat_of_zero_le h1
  exact bit01 ⟨m, by omega⟩
theorem put_part {w : World} {b n : Nat} {cs new : List Value} (h : Blk w b cs) (o : Nat) (ho : o + n ≤ cs.length) (hn : new.length = n) (h1 : ∀ u ∈ new, one u = true) {K : World → Prop}
    (hK : ∀ w', Blk w' b (splice cs o new) → Tch [b] w w' → w'.heap.size = w.heap.size → K w') :
    Array.size (List.toArray new) = n ∧ (∀ u ∈ Array.toList (List.toArray new), one u = true) ∧ Room w (Addr.add ⟨b, 0, none⟩ o) n ∧
      ∀ w' : World, w' = setCells w (Addr.add ⟨b, 0, none⟩ o) (Array.toList (List.toArray new)) 0 → K w' := by
  rw [add_mk, Nat.zero_add]
  refine ⟨by simpa using hn, by simpa using h1, h.room o n ho, ?_⟩
  rintro w' rfl
  exact hK _ (h.sets_at o (by show o + new.length ≤ _; omega)) (Tch.setCells (.inl (by simp)) (Tch.refl _ _)) size_setCells
theorem splice_mid {A M N B : List Value} (h : M.length = N.length) : splice (A ++ (M ++ B)) A.length N = A ++ (N ++ B) := by
  unfold splice
  rw [List.take_left, ← h, ← List.drop_drop, List.drop_left, List.drop_left]
theorem node_fill {b : Int} {d o : List Int} (hd : d.length = 32) (ho : o.length = 32) : fillL (.fields [(0, 1), (1, 1), (2, 32), (34, 32), (66, 3)]) Nd.zero.cells [(0, .int .i64 2), (1, .int .i64 b), (2, .agg (u8 d).toArray), (3, .agg (u8 o).toArray)] = some (Nd.mk 2 b d o 0 0 0).cells := by
  have e0 : fillL (.fields [(0, 1), (1, 1), (2, 32), (34, 32), (66, 3)]) Nd.zero.cells [(0, .int .i64 2), (1, .int .i64 b), (2, .agg (u8 d).toArray), (3, .agg (u8 o).toArray)] =
      fillL (.fields [(0, 1), (1, 1), (2, 32), (34, 32), (66, 3)]) ([.int .i64 2, .int .i64 b] ++ (u8 z32 ++ (u8 z32 ++ rowC 0 0 0))) [(2, .agg (u8 d).toArray), (3, .agg (u8 o).toArray)] := rfl
  have sd : (Value.agg (u8 d).toArray).cells.size = 32 := by show (u8 d).toArray.size = 32; simpa using hd
  have so : (Value.agg (u8 o).toArray).cells.size = 32 := by show (u8 o).toArray.size = 32; simpa using ho
  have e1 : fillL (.fields [(0, 1), (1, 1), (2, 32), (34, 32), (66, 3)]) ([.int .i64 2, .int .i64 b] ++ (u8 z32 ++ (u8 z32 ++ rowC 0 0 0))) [(2, .agg (u8 d).toArray), (3, .agg (u8 o).toArray)] =
      fillL (.fields [(0, 1), (1, 1), (2, 32), (34, 32), (66, 3)]) (([.int .i64 2, .int .i64 b] ++ u8 d) ++ (u8 z32 ++ rowC 0 0 0)) [(3, .agg (u8 o).toArray)] := by
    have := splice_mid (A := [.int .i64 2, .int .i64 b]) (M := u8 z32) (N := u8 d) (B := u8 z32 ++ rowC 0 0 0) (by simp [hd, z32])
    rw [List.append_assoc, ← this]
    simp only [fillL, Place.at, List.getElem?_cons_succ, List.getElem?_cons_zero, sd]
    rw [if_pos ⟨trivial, by simp [z32]⟩]
    rfl
  rw [e0, e1]
  have := splice_mid (A := [Value.int .i64 2, .int .i64 b] ++ u8 d) (M := u8 z32) (N := u8 o) (B := rowC 0 0 0) (by simp [ho, z32])
  have hl : ([Value.int .i64 2, .int .i64 b] ++ u8 d).length = 34 := by simp [hd]
  rw [hl] at this
  simp only [fillL, Place.at, List.getElem?_cons_succ, List.getElem?_cons_zero, so]
  rw [if_pos ⟨trivial, by simp [z32, hd]⟩]
  show some (splice _ 34 (u8 o)) = _
  rw [this]
  simp [Nd.cells]
end Go.Proofs.YtjkbjppopdfggaaDoor.Sha
namespace Go.Proofs.YtjkbjppopdfggaaDoor.Tre
open Go Den Fn Sha
open Go.RowKit (Below)
open Classical
set_option maxRecDepth 8000
set_option maxHeartbeats 4000000
theorem nodesT : MapT Tryd.prog 113 24 115 6 (List.replicate 32 (.int .u8)) := ⟨by kernel_rfl, dig_flat, dig_eqT⟩
theorem zcLeaf : zc Tryd.prog 148 = rowC 0 0 0 ++ u8 z32 := by kernel_rfl
theorem zcFk : zc Tryd.prog 153 = [.int .i64 0, .nilIface, .nilIface] ++ u8 z32 := by kernel_rfl
/-- Entries that are put in, in order. -/
noncomputable def insE (es : Ents) (L : List (List Int × Value)) : Ents := L.foldl (fun es q => mPut es (u8 q.1) q.2) es
theorem insE_append (es : Ents) (L M : List (List Int × Value)) : insE es (L ++ M) = insE (insE es L) M := by simp [insE]
def KeysD (es : Ents) : Prop := ∀ e ∈ es, Fits (List.replicate 32 (.int .u8)) e.1
theorem insE_keys : ∀ {L : List (List Int × Value)} {es : Ents}, KeysD es → (∀ q ∈ L, q.1.length = 32 ∧ Bytes q.1) → KeysD (insE es L)
  | [], _, h, _ => h
  | q :: L, es, h, hL => by
    show KeysD (insE (mPut es (u8 q.1) q.2) L)
    refine insE_keys (fun e he => ?_) fun r hr => hL r (by simp [hr])
    rcases mPut_keys he with h1 | h1
    · rw [h1]; exact dig_fits (hL q (by simp)).1 (hL q (by simp)).2
    · exact h e h1
theorem PartAt.sums {F : Nat → Prop} {w : World} : ∀ {tr : Tr} {v : Value} {L : List (List Int × Value)}, PartAt F w v tr L → ∀ q ∈ L, q.1.length = 32 ∧ Bytes q.1
  | .leaf x, v, L, ⟨b, _, _, _, h⟩ => fun q hq => by
    rw [h, List.mem_singleton] at hq
    rw [hq]; exact ⟨Tr.sum_len _, Tr.sum_bytes _⟩
  | .fork n l r, v, L, ⟨b, vl, vr, Ll, Lr, _, _, _, h1, h2, h⟩ => fun q hq => by
    rw [h] at hq
    rcases List.mem_append.1 hq with hq | hq
    · rcases List.mem_append.1 hq with hq | hq
      · exact PartAt.sums h1 q hq
      · exact PartAt.sums h2 q hq
    · rw [List.mem_singleton] at hq
      rw [hq]; exact ⟨Tr.sum_len _, Tr.sum_bytes _⟩
/-! ### What lies in cells is not in a map's block -/
theorem cell_past {w w' : World} {pb : Nat} {es : Ents} (hm : MapAt w pb es) (ht : Tch [pb] w w') {p : Addr} {v : Value} (h : w.cell? p = some v) : w'.cell? p = some v := by
  have hb : p.block ≠ pb := by
    rintro e
    obtain ⟨arr, c, hh, _⟩ := hm
    unfold World.cell? at h
    rw [e, hh] at h
    cases h
  rw [World.cell?_of_block (ht.block p.block (World.block_lt_of_cell? _ _ h) (by simpa using hb))]
  exact h
theorem rsl_past {w w' : World} {pb : Nat} {es : Ents} (hm : MapAt w pb es) (ht : Tch [pb] w w') {sz n c : Nat} {a : Option Addr} {cs : List Value} (h : RSl w sz a n c cs) : RSl w' sz a n c cs := by
  refine ⟨h.cap, h.len, h.ones, ?_⟩
  rcases h.at' with h' | ⟨b, o, h1, h2⟩
  · exact .inl h'
  · exact .inr ⟨b, o, h1, fun i v hv => cell_past hm ht (h2 i v hv)⟩
theorem FormsAt.past {w w' : World} {pb : Nat} {es : Ents} (hm : MapAt w pb es) (ht : Tch [pb] w w') {a : Option Addr} {c : Nat} {l : List Rw} (h : FormsAt w a c l) : FormsAt w' a c l := by
  obtain ⟨vs, h1, h2⟩ := h
  refine ⟨vs, rsl_past hm ht h1, fun i x hx => ?_⟩
  obtain ⟨b, d, g1, g2⟩ := h2 i x hx
  exact ⟨b, d, g1, rsl_past hm ht g2⟩
theorem Tabs.past {w w' : World} {pb : Nat} {es : Ents} (hm : MapAt w pb es) (ht : Tch [pb] w w') (h : Tabs w) : Tabs w' := ⟨fun i v hv => cell_past hm ht (h.1 i v hv), fun i v hv => cell_past hm ht (h.2 i v hv)⟩
theorem Blk.not_map {w : World} {b pb : Nat} {cs : List Value} {es : Ents} (h : Blk w b cs) (hm : MapAt w pb es) : b ≠ pb := by
  rintro rfl
  obtain ⟨T, h⟩ := h
  obtain ⟨arr, c, hh, _⟩ := hm
  rw [h] at hh
  cases hh
theorem FormsAt.part {w : World} {a : Option Addr} {c : Nat} {l : List Rw} (h : FormsAt w a c l) {i j : Nat} (hij : i ≤ j) (hj : j ≤ l.length) {a' : Option Addr} {c' : Nat} (ha : a' = if c = i then a else a.map fun y => y.add (i * 1)) (hc : c' = c - i) :
    FormsAt w a' c' ((l.drop i).take (j - i)) := by
  obtain ⟨vs, h1, h2⟩ := h
  have hlen : vs.length = l.length := by have := h1.len; simpa using this
  have hs := h1.sub hij hj
  rw [Nat.mul_one, Nat.mul_one] at hs
  subst ha hc
  have hl' : ((l.drop i).take (j - i)).length = j - i := by rw [List.length_take, List.length_drop]; omega
  refine ⟨_, by rw [hl', Nat.mul_one]; exact hs, fun q x hx => ?_⟩
  have hq : q < j - i := by have := (List.getElem?_eq_some_iff.1 hx).1; omega
  rw [List.getElem?_take, if_pos hq, List.getElem?_drop] at hx
  obtain ⟨b, d, g1, g2⟩ := h2 _ x hx
  exact ⟨b, d, by rw [List.getElem?_take, if_pos hq, List.getElem?_drop]; exact g1, g2⟩
theorem rows_part {l : List Rw} {i j : Nat} : ((rows rwC l).drop (i * 3)).take ((j - i) * 3) = rows rwC ((l.drop i).take (j - i)) := by
  have hd : ∀ (i : Nat) (l : List Rw), (rows rwC l).drop (i * 3) = rows rwC (l.drop i) := by
    intro i
    induction i with
    | zero => intro l; simp
    | succ i ih =>
      intro l
      cases l with
      | nil => simp [rows]
      | cons x l =>
        rw [rows_cons, show (i + 1) * 3 = (rwC x).length + i * 3 by show _ = 3 + i * 3; omega, ← List.drop_drop, List.drop_left, ih, List.drop_succ_cons]
  have htk : ∀ (i : Nat) (l : List Rw), (rows rwC l).take (i * 3) = rows rwC (l.take i) := by
    intro i
    induction i with
    | zero => intro l; simp [rows]
    | succ i ih =>
      intro l
      cases l with
      | nil => simp [rows]
      | cons x l =>
        rw [rows_cons, show (i + 1) * 3 = (rwC x).length + i * 3 by show _ = 3 + i * 3; omega, List.take_length_add_append, ih, List.take_succ_cons, rows_cons]
  rw [hd, htk]
theorem leaf_fill {x : Rw} {d : List Int} (hd : d.length = 32) : fillL (.fields [(0, 3), (3, 32)]) (rowC 0 0 0 ++ u8 z32) [(0, .agg (rwC x).toArray), (1, .agg (u8 d).toArray)] = some (rwC x ++ u8 d) := by
  have e0 : fillL (.fields [(0, 3), (3, 32)]) (rowC 0 0 0 ++ u8 z32) [(0, .agg (rwC x).toArray), (1, .agg (u8 d).toArray)] = fillL (.fields [(0, 3), (3, 32)]) (rwC x ++ u8 z32) [(1, .agg (u8 d).toArray)] := rfl
  have sd : (Value.agg (u8 d).toArray).cells.size = 32 := by show (u8 d).toArray.size = 32; simpa using hd
  have := splice_mid (A := rwC x) (M := u8 z32) (N := u8 d) (B := []) (by simp [hd, z32])
  rw [List.append_nil, List.append_nil, show (rwC x).length = 3 from rfl] at this
  rw [e0]
  simp only [fillL, Place.at, List.getElem?_cons_succ, List.getElem?_cons_zero, sd]
  rw [if_pos ⟨trivial, by simp [z32]⟩]
  show some (splice _ 3 (u8 d)) = _
  rw [this]
theorem fork_fill {n : Int} {vl vr : Value} (hl : vl.cells = #[vl]) (hr : vr.cells = #[vr]) : fillL (.fields [(0, 1), (1, 1), (2, 1), (3, 32)]) ([.int .i64 0, .nilIface, .nilIface] ++ u8 z32) [(0, .int .i64 n), (1, vl), (2, vr)] = some ([.int .i64 n, vl, vr] ++ u8 z32) := by
  simp only [fillL, Place.at, List.getElem?_cons_succ, List.getElem?_cons_zero, hl, hr]
  rfl
end Go.Proofs.YtjkbjppopdfggaaDoor.Tre
namespace Go.Proofs.YtjkbjppopdfggaaDoor.Tre
open Go Den Fn Sha
open Go.RowKit (Below)
open Classical
set_option maxRecDepth 8000
set_option maxHeartbeats 4000000
def Btw (A B k : Nat) : Prop := A ≤ k ∧ k < B
/-- What grow stands on. -/
structure GIn (w : World) (tb pb : Nat) (vt : Value) (es : Ents) (ra : Option Addr) (rc : Nat) (fa : Option Addr) (fc : Nat) (l : List Rw) : Prop where
  rws : RSl w 3 ra l.length rc (rows rwC l)
  forms : FormsAt w fa fc l
  tb : Blk w tb [vt, .map (some pb)]
  map : MapAt w pb es
  keys : KeysD es
  tabs : Tabs w
theorem GIn.quiet {w w' : World} {tb pb : Nat} {vt : Value} {es : Ents} {ra fa : Option Addr} {rc fc : Nat} {l : List Rw} (h : GIn w tb pb vt es ra rc fa fc l) (ht : Tch [] w w') : GIn w' tb pb vt es ra rc fa fc l :=
  ⟨h.rws.tch ht (fun _ _ h => by cases h), h.forms.quiet ht, h.tb.tch ht (by simp), h.map.tch ht (by simp), h.keys, h.tabs.tch ht⟩
theorem GIn.past {w w' : World} {tb pb : Nat} {vt : Value} {es es' : Ents} {ra fa : Option Addr} {rc fc : Nat} {l : List Rw} (h : GIn w tb pb vt es ra rc fa fc l) (ht : Tch [pb] w w') (hm : MapAt w' pb es') (hk : KeysD es') : GIn w' tb pb vt es' ra rc fa fc l :=
  ⟨rsl_past h.map ht h.rws, h.forms.past h.map ht, h.tb.tch ht (by simpa using Blk.not_map h.tb h.map), hm, hk, Tabs.past h.map ht h.tabs⟩
/-- What grow hands back. -/
def GrowR (w : World) (pb : Nat) (es : Ents) (t : Tr) (e : Ending) (w' : World) : Prop := ∃ v L, e = .returned v ∧ PartAt (Btw w.heap.size w'.heap.size) w' v t L ∧ MapAt w' pb (insE es L) ∧ Tch [pb] w w'
theorem grow_one (w : World) (x : Rw) (hx : x.ok) (tb pb : Nat) (vt : Value) (es : Ents) (ra fa : Option Addr) (rc fc : Nat) (h : GIn w tb pb vt es ra rc fa fc [x]) :
    Calls Tryd.prog 61 #[.pointer (some ⟨tb, 0, none⟩), .slice ra 1 rc, .slice fa 1 fc] w (GrowR w pb es (.leaf x)) := by
  refine c61 _ _ _ _ _ _ _ ?_
  unfold d61
  rw [bif_pos (by rfl)]
  rintro w3 rfl
  have ht := (Tch.refl [] w).drew
  have h3 := h.quiet ht
  generalize w.drew = w3 at *
  refine ⟨by omega, by omega, ?_⟩
  obtain ⟨rb, ro, rfl, hc⟩ := h3.rws.elem' rwC_len (by omega) (i := 0) (x := x) rfl
  refine ⟨rwC x, rfl, by rw [add_mk]; exact hc, by omega, by omega, rwC x, rfl, by rw [add_mk]; exact hc, ?_⟩
  refine (leafSum_c _ _ _ w3 hx.key h3.tabs).mono ?_
  rintro e w9 ⟨rfl, t9⟩
  have h9 := h3.quiet t9
  obtain ⟨rb', ro', e', hc9⟩ := h9.rws.elem' rwC_len (by omega) (i := 0) (x := x) rfl
  cases e'
  refine ⟨_, rfl, ⟨rwC x, rfl, by rw [add_mk]; exact hc9, rfl, rfl⟩, ?_⟩
  have hd : (sha (leafT x.t x.r x.v)).length = 32 := sha_length _
  refine ⟨rwC x ++ u8 (sha (leafT x.t x.r x.v)), by rw [zcLeaf]; exact leaf_fill hd, ?_⟩
  rintro w13 rfl
  have hB := Blk.fresh w9 (cs := rwC x ++ u8 (sha (leafT x.t x.r x.v))) 148 rfl
  have t13 := (ht.trans t9 (by simp)).alloc (.cells (rwC x ++ u8 (sha (leafT x.t x.r x.v))).toArray 148)
  have h13 := h.quiet t13
  have s13 := size_alloc w9 (.cells (rwC x ++ u8 (sha (leafT x.t x.r x.v))).toArray 148)
  have s9 := (ht.trans t9 (by simp)).size
  generalize w9.alloc (.cells (rwC x ++ u8 (sha (leafT x.t x.r x.v))).toArray 148) = w13 at *
  generalize w9.heap.size = nb at *
  rintro w14 rfl
  replace hB := hB.drew
  replace t13 := t13.drew
  replace h13 := h.quiet t13
  have s14 : w13.drew.heap.size = nb + 1 := s13
  generalize w13.drew = w14 at *
  refine ⟨some pb, by rw [add_mk]; exact h13.tb.cell 1, ?_⟩
  refine get_part hB 3 32 (u8 (sha (leafT x.t x.r x.v))) (by show (u8 _).take 32 = _; exact List.take_of_length_le (by rw [List.length_map, hd]; exact Nat.le_refl _)) (by rw [List.length_map]; exact hd) ?_
  refine nodesT.put h13.map h13.keys (dig_fits hd (sha_bytes _)) fun w18 m18 t18 => ?_
  refine ⟨_, [(sha (leafT x.t x.r x.v), .iface 146 (.pointer (some ⟨nb, 0, none⟩)))], rfl, ⟨nb, rfl, ⟨s9, by have := t18.size; omega⟩, hB.tch t18 (by simpa using Blk.not_map hB h13.map), rfl⟩, m18, ?_⟩
  exact (t13.weaken (t := [pb]) (by simp)).trans t18 (by simp)
theorem treeS_one {k : Nat} {x : Rw} : treeS (k + 1) [x] = .leaf x := by
  rw [treeS, if_pos (by rfl)]; rfl
theorem treeS_two {k : Nat} {l : List Rw} (h : 2 ≤ l.length) : treeS (k + 1) l = .fork (partBit l) (treeS k (l.take (partAt l (partBit l)))) (treeS k (l.drop (partAt l (partBit l)))) := by
  rw [treeS, if_neg (by omega)]
theorem cell_quiet {w w' : World} (ht : Tch [] w w') {p : Addr} {v : Value} (h : w.cell? p = some v) : w'.cell? p = some v := by
  rw [World.cell?_of_block (ht.block p.block (World.block_lt_of_cell? _ _ h) (by simp))]
  exact h
/-- Where the box of the bit stands. -/
def BoxAt (w : World) (n : Nat) (a : Option Addr) (u : World) : Prop := ∃ nb, a = some ⟨nb, 0, none⟩ ∧ Blk u nb [.int .i64 (n : Int)] ∧ Tch [] w u ∧ w.heap.size ≤ nb
theorem FormsAt.some {w : World} {a : Option Addr} {c : Nat} {l : List Rw} (h : FormsAt w a c l) (h1 : 1 ≤ l.length) : ∃ y, a = Option.some y := by
  cases a with
  | none => have := h.none; omega
  | some y => exact ⟨y, rfl⟩
theorem grow_c : ∀ (k : Nat) (l : List Rw) (w : World) (tb pb : Nat) (vt : Value) (es : Ents) (ra fa : Option Addr) (rc fc : Nat), 1 ≤ l.length → l.length ≤ k → l.length ≤ 1000000000000 → RowsOk l → GIn w tb pb vt es ra rc fa fc l →
    Calls Tryd.prog 61 #[.pointer (some ⟨tb, 0, none⟩), .slice ra l.length rc, .slice fa l.length fc] w (GrowR w pb es (treeS k l))
  | 0, l, w, tb, pb, vt, es, ra, fa, rc, fc, h1, h2, _, _, _ => by omega
  | k + 1, l, w, tb, pb, vt, es, ra, fa, rc, fc, h1, h2, hl, hR, h => by
    by_cases hone : l.length = 1
    · obtain ⟨x, rfl⟩ := List.length_eq_one_iff.1 hone
      rw [treeS_one]
      exact grow_one w x (hR.ok x (by simp)) tb pb vt es ra fa rc fc h
    rw [treeS_two (by omega)]
    have hP := partBit_ok hR (by omega)
    generalize partBit l = n at *
    obtain ⟨hp0, hpl, hn80⟩ := hP.at
    obtain ⟨x, y, hx, hy, hF, _, _⟩ := hP
    have hkx : Bytes (kw x) := keyB_bytes _ _
    have hky : Bytes (kw y) := keyB_bytes _ _
    refine c61 _ _ _ _ _ _ _ ?_
    unfold d61
    rw [bif_neg (by omega)]
    obtain ⟨f0, rfl⟩ := h.forms.some h1
    refine ⟨BoxAt w n, ?_, ?_⟩
    · rintro w20 rfl
      have ht := (Tch.refl [] w).drew
      have h3 := h.quiet ht
      have s3 : w.drew.heap.size = w.heap.size := rfl
      generalize w.drew = w3 at *
      obtain ⟨b1, c1, g1, g2⟩ := h3.forms.get hx
      obtain ⟨b2, c2, g3, g4⟩ := h3.forms.get hy
      rw [wrap_i64 (by omega) (by omega)]
      have hcast : (((l.length : Nat) : Int) - 1) = ((l.length - 1 : Nat) : Int) := by omega
      rw [hcast]
      refine ⟨by omega, by omega, b1, 10, c1, g1, by omega, by omega, b2, 10, c2, by rw [Int.toNat_natCast]; exact g3, ?_, ?_⟩
      · refine (differ_c w3 (kw x) (kw y) b1 b2 c1 c2 g2 g4 hkx hky n hF).mono ?_
        rintro e w26 ⟨rfl, t26⟩
        refine ⟨_, rfl, ?_⟩
        rintro w28 rfl
        have hB : Blk _ _ [Value.int .i64 0] := Blk.fresh w26 (cs := zc Tryd.prog 3) 3 rfl
        have t28 := (ht.trans t26 (by simp)).alloc (.cells (zc Tryd.prog 3).toArray 3)
        have s26 := t26.size
        generalize w26.alloc (.cells (zc Tryd.prog 3).toArray 3) = w28 at *
        generalize w26.heap.size = nb at *
        refine put_one hB rfl fun w29 hB t29 => ⟨nb, rfl, hB, ?_, by omega⟩
        exact t28.trans t29 (by simp; omega)
      · rintro w30 rfl
        have hB : Blk _ _ [Value.int .i64 0] := Blk.fresh w3 (cs := zc Tryd.prog 3) 3 rfl
        have t30 := ht.alloc (.cells (zc Tryd.prog 3).toArray 3)
        have q := (Tch.refl [] w3).alloc (.cells (zc Tryd.prog 3).toArray 3)
        have s30 := size_alloc w3 (.cells (zc Tryd.prog 3).toArray 3)
        replace g1 := cell_quiet q g1
        replace g3 := cell_quiet q g3
        replace g2 := g2.tch q (fun _ _ h => by cases h)
        replace g4 := g4.tch q (fun _ _ h => by cases h)
        generalize w3.alloc (.cells (zc Tryd.prog 3).toArray 3) = w30 at *
        generalize w3.heap.size = nb at *
        refine ⟨⟨b2, 10, c2, by rw [Int.toNat_natCast]; exact g3, rfl, rfl⟩, ⟨b1, 10, c1, g1, rfl, rfl⟩, ?_⟩
        refine (differ_c w30 (kw x) (kw y) b1 b2 c1 c2 g2 g4 hkx hky n hF).mono ?_
        rintro e w34 ⟨rfl, t34⟩
        refine ⟨_, rfl, ?_⟩
        refine put_one (hB.tch t34 (by simp)) rfl fun w36 hB t36 => ⟨nb, rfl, hB, ?_, by omega⟩
        exact (t30.trans t34 (by simp)).trans t36 (by simp; omega)
    · rintro u _ ⟨nb, rfl, hB, tu, hnb⟩
      have hu := h.quiet tu
      refine (indexFunc_c u l _ fc hu.forms n nb hB hn80 hpl hl).mono ?_
      rintro e w40 ⟨rfl, rfl⟩
      refine ⟨_, rfl, ?_⟩
      rintro w42 rfl
      replace hB := hB.drew
      replace tu := tu.drew
      replace hu := h.quiet tu
      have su := tu.size
      have hbl := hB.lt
      generalize w40.drew = w42 at *
      clear w40
      have hcap := hu.rws.cap
      have hcapf : l.length ≤ fc := by obtain ⟨vs, h1, _⟩ := hu.forms; exact h1.cap
      have hnp : nb ≠ pb := Blk.not_map hB hu.map
      refine ⟨_, hB.cell 0, by omega, by omega, by omega, by omega, by omega, by omega, by omega, by omega, ?_⟩
      generalize partAt l n = p at *
      rw [Int.toNat_natCast]
      have hA : GIn w42 tb pb vt es (if rc = 0 then ra else ra.map fun y => y.add (0 * 3)) (rc - 0) (if fc = 0 then some f0 else (some f0).map fun y => y.add (0 * 1)) (fc - 0) (l.take p) := by
        have hs := hu.rws.sub (l := 0) (hh := p) (by omega) (by omega)
        rw [rows_part] at hs
        have hf := hu.forms.part (i := 0) (j := p) (by omega) (by omega) rfl rfl
        rw [List.drop_zero, Nat.sub_zero] at hs hf
        exact ⟨by rw [List.length_take, Nat.min_eq_left (by omega)]; exact hs, hf, hu.tb, hu.map, hu.keys, hu.tabs⟩
      have hA := grow_c k (l.take p) w42 tb pb vt es _ _ _ _ (by rw [List.length_take]; omega) (by rw [List.length_take]; omega) (by rw [List.length_take]; omega) (hR.take p) hA
      rw [List.length_take, Nat.min_eq_left (by omega)] at hA
      refine hA.mono ?_
      rintro e w46 ⟨vl, Ll, rfl, pl, ml, tl⟩
      have kl := insE_keys hu.keys pl.sums
      have h46 := hu.past tl ml kl
      have sl := tl.size
      replace hB := hB.tch tl (by simpa using hnp)
      refine ⟨vl, rfl, ⟨_, hB.cell 0, rfl, rfl⟩, ?_⟩
      have hC : GIn w46 tb pb vt (insE es Ll) (if rc = p then ra else ra.map fun y => y.add (p * 3)) (rc - p) (if fc = p then some f0 else (some f0).map fun y => y.add (p * 1)) (fc - p) (l.drop p) := by
        have hs := h46.rws.sub (l := p) (hh := l.length) (by omega) (by omega)
        rw [rows_part] at hs
        have hf := h46.forms.part (i := p) (j := l.length) (by omega) (by omega) rfl rfl
        have he : (l.drop p).take (l.length - p) = l.drop p := List.take_of_length_le (by rw [List.length_drop]; exact Nat.le_refl _)
        rw [he] at hs hf
        exact ⟨by rw [List.length_drop]; exact hs, hf, h46.tb, h46.map, h46.keys, h46.tabs⟩
      have hC := grow_c k (l.drop p) w46 tb pb vt (insE es Ll) _ _ _ _ (by rw [List.length_drop]; omega) (by rw [List.length_drop]; omega) (by rw [List.length_drop]; omega) (hR.drop p) hC
      rw [List.length_drop] at hC
      refine hC.mono ?_
      rintro e w51 ⟨vr, Lr, rfl, pr, mr, tr⟩
      have kr := insE_keys kl pr.sums
      have h51 := h46.past tr mr kr
      have sr := tr.size
      replace hB := hB.tch tr (by simpa using hnp)
      replace pl := pl.tch tr (by
        simp only [List.mem_singleton]
        rintro _ rfl ⟨h1, h2⟩
        have := h.map.lt
        omega)
      refine ⟨vr, rfl, ⟨_, hB.cell 0, rfl, rfl⟩, ?_⟩
      generalize treeS k (l.take p) = Tl at *
      generalize treeS k (l.drop p) = T2 at *
      have hvl : vl.cells = #[vl] := by obtain ⟨b, h | h⟩ := pl.shape <;> rw [h] <;> rfl
      have hvr : vr.cells = #[vr] := by obtain ⟨b, h | h⟩ := pr.shape <;> rw [h] <;> rfl
      refine ⟨[.int .i64 (n : Int), vl, vr] ++ u8 z32, by rw [zcFk]; exact fork_fill hvl hvr, ?_⟩
      rintro w56 rfl
      generalize hcs : ([.int .i64 (n : Int), vl, vr] ++ u8 z32 : List Value) = cs
      have hK : Blk _ _ cs := Blk.fresh w51 (cs := cs) 153 rfl
      have t56 := (Tch.refl [] w51).alloc (.cells cs.toArray 153)
      have s56 := size_alloc w51 (.cells cs.toArray 153)
      generalize w51.alloc (.cells cs.toArray 153) = w56 at *
      generalize hfb : w51.heap.size = fb at hK s56 ⊢
      subst hcs
      rintro w57 rfl
      replace hK := hK.drew
      replace t56 := t56.drew
      replace s56 : w56.drew.heap.size = fb + 1 := s56
      generalize w56.drew = w57 at *
      replace hB := hB.tch t56 (by simp)
      have h57 := h51.quiet t56
      have pl7 := pl.tch t56 (by simp)
      have pr7 := pr.tch t56 (by simp)
      refine ⟨_, hB.cell 0, vl, by rw [add_mk]; exact hK.cell 1, vr, by rw [add_mk]; exact hK.cell 2, ?_⟩
      refine digest_k pl7 fun w67 t67 => ?_
      have k67 := hK.tch t67 (by simp)
      have b67 := hB.tch t67 (by simp)
      refine ⟨⟨vr, by rw [add_mk]; exact k67.cell 2, rfl, rfl⟩, ⟨_, b67.cell 0, rfl, rfl⟩, ?_⟩
      refine digest_k (pr7.tch t67 (by simp)) fun w77 t77 => ?_
      have b77 := b67.tch t77 (by simp)
      have h77 := (h57.quiet t67).quiet t77
      refine ⟨⟨_, b77.cell 0, rfl, rfl⟩, ?_⟩
      refine (forkSum_c n _ _ w77 (Tr.sum_len Tl) (Tr.sum_len T2) (Tr.sum_bytes Tl) (Tr.sum_bytes T2) h77.tabs).mono ?_
      rintro e w82 ⟨rfl, t82⟩
      have q := (t67.trans t77 (by simp)).trans t82 (by simp)
      have hd : (sha (forkT (n : Int) Tl.sum T2.sum)).length = 32 := sha_length _
      refine ⟨_, rfl, ?_⟩
      refine put_part (hK.tch q (by simp)) 3 (by simp [z32]) (by rw [List.length_map]; exact hd) ones_ints fun w84 k84 t84 s84 => ?_
      replace k84 : Blk w84 fb ([.int .i64 (n : Int), vl, vr] ++ u8 (sha (forkT (n : Int) Tl.sum T2.sum))) := by
        have := splice_mid (A := [.int .i64 (n : Int), vl, vr]) (M := u8 z32) (N := u8 (sha (forkT (n : Int) Tl.sum T2.sum))) (B := []) (by simp [hd, z32])
        rw [List.append_nil, List.append_nil] at this
        rw [show ([Value.int .i64 (n : Int), vl, vr] : List Value).length = 3 from rfl] at this
        rw [this] at k84
        exact k84
      have h82 := h57.quiet q
      have q51 := t56.trans q (by simp)
      have q84 : Tch [] w51 w84 := q51.trans t84 (by simp; omega)
      have h84 := h51.quiet q84
      rintro w85 rfl
      replace q84 := q84.drew
      replace h84 := h51.quiet q84
      replace k84 := k84.drew
      have s85 : w84.drew.heap.size = w84.heap.size := rfl
      generalize w84.drew = w85 at *
      refine ⟨some pb, by rw [add_mk]; exact h84.tb.cell 1, ?_⟩
      refine get_part k84 3 32 (u8 (sha (forkT (n : Int) Tl.sum T2.sum))) (by show (u8 _).take 32 = _; exact List.take_of_length_le (by rw [List.length_map, hd]; exact Nat.le_refl _)) (by rw [List.length_map]; exact hd) ?_
      refine nodesT.put h84.map h84.keys (dig_fits hd (sha_bytes _)) fun w89 m89 t89 => ?_
      have z1 := q84.size
      have z2 := t89.size
      have z3 := q.size
      refine ⟨_, Ll ++ Lr ++ [(sha (forkT (n : Int) Tl.sum T2.sum), .iface 151 (.pointer (some ⟨fb, 0, none⟩)))], rfl, ?_, ?_, ?_⟩
      · refine ⟨fb, vl, vr, Ll, Lr, rfl, ⟨by omega, by omega⟩, k84.tch t89 (by simpa using Blk.not_map k84 h84.map), ?_, ?_, rfl⟩
        · refine ((pl.tch q84 (by simp)).tch t89 ?_).mono fun z hz => ⟨by have := hz.1; omega, by have := hz.2; omega⟩
          simp only [List.mem_singleton]
          rintro _ rfl ⟨h1, h2⟩
          have := h.map.lt
          omega
        · refine ((pr.tch q84 (by simp)).tch t89 ?_).mono fun z hz => ⟨by have := hz.1; omega, by have := hz.2; omega⟩
          simp only [List.mem_singleton]
          rintro _ rfl ⟨h1, h2⟩
          have := h.map.lt
          omega
      · rw [insE_append, insE_append]
        exact m89
      · refine ((((tu.weaken (t := [pb]) (by simp)).trans tl (by simp)).trans tr (by simp)).trans q84 (by simp)).trans t89 (by simp)
end Go.Proofs.YtjkbjppopdfggaaDoor.Tre
namespace Go.Proofs.YtjkbjppopdfggaaDoor.Tre
open Go Den Fn Sha
open Go.RowKit (Below)
open Classical
set_option maxRecDepth 8000
set_option maxHeartbeats 4000000
structure Rw.wf (x : Rw) : Prop where
  t : Sha.I64 x.t
  r : Sha.I64 x.r
  v : Sha.I64 x.v
theorem up_of_rises : ∀ {l : List (Int × Int)}, Lib.RisesS l → Up l
  | [], _ => List.Pairwise.nil
  | x :: l, h => by
    have h' : Lib.RisesS l := ⟨fun k hk => h.1 k (by simp [hk]), fun i a b ha hb => h.2 (i + 1) a b (by simpa using ha) (by simpa using hb)⟩
    refine List.pairwise_cons.2 ⟨?_, up_of_rises h'⟩
    have go : ∀ (j : Nat) (b : Int × Int), l[j]? = some b → Lib.cmpK x b < 0 := by
      intro j
      induction j with
      | zero => intro b hb; exact h.2 0 x b rfl (by rw [List.getElem?_cons_succ]; exact hb)
      | succ j ih =>
        intro b hb
        have hj : l[j]? = some (l[j]'(by have := (List.getElem?_eq_some_iff.1 hb).1; omega)) := List.getElem?_eq_getElem _
        exact lt_trans' (ih _ hj) (h.2 (j + 1) _ b (by rw [List.getElem?_cons_succ]; exact hj) (by rw [List.getElem?_cons_succ]; exact hb))
    intro b hb
    obtain ⟨j, hj⟩ := List.getElem?_of_mem hb
    exact go j b hj
theorem rowsOk_of {l : List Rw} (hl : ∀ x ∈ l, x.wf) (h : Lib.RisesS (keysOf l)) : RowsOk l := ⟨fun x hx => ⟨h.1 x.k (List.mem_map_of_mem hx), (hl x hx).t, (hl x hx).r, (hl x hx).v⟩, up_of_rises h⟩
theorem keys_kI {l : List Rw} (hl : ∀ x ∈ l, x.wf) : ∀ k ∈ keysOf l, Lib.kI k := fun k hk => by
  obtain ⟨x, hx, rfl⟩ := List.mem_map.1 hk
  exact ⟨(hl x hx).t, (hl x hx).r⟩
theorem put_cell {w : World} {b : Nat} {cs : List Value} (h : Blk w b cs) (o : Nat) (ho : o < cs.length) {v : Value} (h1 : one v = true) {K : World → Prop}
    (hK : ∀ w', Blk w' b (cs.set o v) → Tch [b] w w' → w'.heap.size = w.heap.size → K w') :
    one v = true ∧ Option.isSome (World.cell? w (Addr.add ⟨b, 0, none⟩ o)) = true ∧ World.frozen? w (Addr.add ⟨b, 0, none⟩ o) = false ∧ ∀ w' : World, w' = World.setCell w (Addr.add ⟨b, 0, none⟩ o) v → K w' := by
  rw [add_mk, Nat.zero_add]
  refine ⟨h1, by rw [h.cell, List.getElem?_eq_getElem ho]; rfl, h.frozen o, ?_⟩
  rintro w' rfl
  exact hK _ (h.set o v) ((Tch.refl [b] w).setCell (p := ⟨b, o, none⟩) (.inl (by simp)) v) (by simp [World.setCell])
theorem rows_snoc {α : Type} {f : α → List Value} {l : List α} {i : Nat} {x : α} (hx : l[i]? = some x) : rows f (l.take i) ++ f x = rows f (l.take (i + 1)) := by
  obtain ⟨hi, rfl⟩ := List.getElem?_eq_some_iff.1 hx
  rw [List.take_succ_eq_append_getElem hi, rows_append, rows_one]
theorem rwC_one {x : Rw} : ∀ u ∈ rwC x, one u = true := by simp [one]
theorem keys_get {l : List Rw} {i : Nat} {x : Rw} (hx : l[i]? = some x) : (keysOf l)[i]? = some x.k := by
  unfold keysOf
  rw [List.getElem?_map, hx]; rfl
theorem zcTree : zc Tryd.prog 117 = [.nilIface, .map none] := by kernel_rfl
theorem zcBs : zc Tryd.prog 22 = [.slice none 0 0] := by kernel_rfl
theorem zcKey : zc Tryd.prog 29 = [.int .i64 0, .int .i64 0] := by kernel_rfl
theorem zcRow : zc Tryd.prog 31 = [.int .i64 0, .int .i64 0, .int .i64 0] := by kernel_rfl
theorem fsT : slT Tryd.prog 78 22 1 24 = true := by kernel_rfl
theorem rsT : slT Tryd.prog 55 31 3 24 = true := by kernel_rfl
/-- A tree in memory. -/
def TreeAt (F : Nat → Prop) (w : World) (tb : Nat) (l : List Rw) : Prop := ∃ pb v L, F tb ∧ F pb ∧ tb ≠ pb ∧ Blk w tb [v, .map (some pb)] ∧ MapAt w pb (insE [] L) ∧ (l = [] ∧ v = .nilIface ∧ L = [] ∨ l ≠ [] ∧ PartAt F w v (treeS l.length l) L)
/-- What New hands back. -/
def NewR (w : World) (l : List Rw) (e : Ending) (w' : World) : Prop := Tch [] w w' ∧ if Lib.RisesS (keysOf l) then ∃ tb, e = .returned (.tuple #[.pointer (some ⟨tb, 0, none⟩), .int .i64 0]) ∧ TreeAt (Btw w.heap.size w'.heap.size) w' tb l else e = .returned (.tuple #[.pointer none, .int .i64 22])
/-- Bytes of keys, as they grow. -/
def FormsIn (u : World) (x : Option Addr) (vs : List Value) (l : List Rw) : Prop := ∀ (i : Nat) (y : Rw) (v : Value), l[i]? = some y → vs[i]? = some v → ∃ b d, v = .slice b 10 d ∧ RSl u 1 b 10 d (u8 (kw y)) ∧ Off (rowL x) b ∧ (∀ z, b = some z → z.block < u.heap.size)
theorem FormsIn.quiet {u u' : World} {x : Option Addr} {vs : List Value} {l : List Rw} (h : FormsIn u x vs l) (ht : Tch [] u u') : FormsIn u' x vs l := fun i y v hy hv => by
  obtain ⟨b, d, h1, h2, h3, h4⟩ := h i y v hy hv
  exact ⟨b, d, h1, h2.tch ht (fun _ _ h => by cases h), h3, fun z hz => Nat.lt_of_lt_of_le (h4 z hz) ht.size⟩
theorem FormsIn.grow {u u' : World} {x x' : Option Addr} {vs : List Value} {l : List Rw} (h : FormsIn u x vs l) (ht : Tch (rowL x) u u') (hm : Moved x x' u.heap.size) : FormsIn u' x' vs l := fun i y v hy hv => by
  obtain ⟨b, d, h1, h2, h3, h4⟩ := h i y v hy hv
  refine ⟨b, d, h1, h2.tch ht h3, fun z hz hmem => ?_, fun z hz => Nat.lt_of_lt_of_le (h4 z hz) ht.size⟩
  rw [mem_rowL] at hmem
  obtain ⟨q, hq, he⟩ := hmem
  rcases hm q hq with h5 | h5
  · rw [he] at h5; exact h3 z hz h5
  · have := h4 z hz; omega
theorem FormsIn.snoc {u : World} {x : Option Addr} {vs : List Value} {l : List Rw} {y : Rw} {b : Option Addr} {d : Nat} (h : FormsIn u x vs l) (hl : l[vs.length]? = some y) (h2 : RSl u 1 b 10 d (u8 (kw y))) (h3 : Off (rowL x) b) (h4 : ∀ z, b = some z → z.block < u.heap.size) : FormsIn u x (vs ++ [.slice b 10 d]) l := fun i y' v hy hv => by
  rw [List.getElem?_append] at hv
  split at hv
  · exact h i y' v hy hv
  · rename_i hge
    have : i = vs.length := by
      by_cases e : i - vs.length = 0
      · omega
      · rw [List.getElem?_eq_none (by show 1 ≤ _; omega)] at hv; cases hv
    subst this
    rw [Nat.sub_self] at hv
    cases hv
    rw [hl] at hy
    cases hy
    exact ⟨b, d, rfl, h2, h3, h4⟩
theorem new_c (w : World) (l : List Rw) (a : Option Addr) (n c : Nat) (hr : RSl w 3 a n c (rows rwC l)) (hl : ∀ x ∈ l, x.wf) (hN : n ≤ 1000000000000) (hT : Tabs w) :
    Calls Tryd.prog 23 #[.slice a n c] w (NewR w l) := by
  have hn := hr.count rwC_len (by omega)
  refine c23 _ _ _ ?_
  unfold d23
  generalize hB : w.heap.size = B
  refine ⟨fun m x xn xc i u => ∃ k : Nat, i = k ∧ k ≤ n ∧ m = n - k ∧ xn = k ∧ u.ownsRow B 29 2 (.slice x k xc) k (rows Lib.kC ((keysOf l).take k)) ∧ Tch [] w u, ⟨n, 0, rfl, by omega, rfl, rfl, own_nil _ _ _ _, Tch.refl _ _⟩, ?_⟩
  rintro m w3 x xn xc i ⟨k, rfl, hk, rfl, rfl, hown, ht⟩
  have hs3 := ht.size
  by_cases hlt : xn < n
  · rw [bif_pos (by omega)]
    refine ⟨by omega, by omega, ?_⟩
    rw [Int.toNat_natCast]
    have hli : l[xn]? = some (l[xn]'(by omega)) := List.getElem?_eq_getElem (by omega)
    generalize l[xn]'(by omega) = y at hli
    refine (hr.tch ht (fun _ _ h => by cases h)).elem rwC_len (by omega) hli ?_
    refine var_init (n := 3) (by rw [zcRow]; rfl) rfl rwC_one fun w8 w9 h1 h2 h3 => ?_
    refine get_part h1 0 2 (Lib.kC y.k) rfl rfl ?_
    replace hown := own_up hown h2 (fun _ _ h => by cases h)
    refine app_elem_at Lib.kT hown (by rw [zcKey]; rfl) (ys := Lib.kC y.k) rfl rfl Lib.kC_one (by have := h2.size; omega) (by omega) (by omega) fun a5 c5 w14 o5 t5 m5 => ?_
    refine ⟨n - (xn + 1), by omega, xn + 1, by rw [wrap_i64 (by omega) (by omega)]; omega, by omega, rfl, rfl, ?_, ?_⟩
    · rw [rows_snoc (keys_get hli)] at o5
      exact o5
    · exact (ht.trans h2 (by simp)).trans t5 fun i hi => .inr (by
        rw [mem_rowL] at hi
        obtain ⟨z, hz, rfl⟩ := hi
        have := (own_ge hown z hz).1
        omega)
  rw [bif_neg (by omega)]
  obtain rfl : xn = n := by omega
  have hkl : (keysOf l).take xn = keysOf l := List.take_of_length_le (by rw [keysOf, List.length_map]; omega)
  rw [hkl] at hown
  have hnm := own_rsl hown Lib.kCs_one
  refine (Lib.rises_c w3 (keysOf l) x xn xc hnm (keys_kI hl) (by omega)).mono ?_
  rintro e w18 ⟨rfl, t18⟩
  refine ⟨_, rfl, ?_⟩
  replace ht := ht.trans t18 (by simp)
  replace hnm := hnm.tch t18 (fun _ _ h => by cases h)
  by_cases hR : Lib.RisesS (keysOf l)
  rotate_left
  · rw [bif_nneg hR]
    refine ⟨ht, ?_⟩
    rw [if_neg hR]
  rw [bif_npos hR]
  rintro w20 rfl
  have sB : B ≤ w18.heap.size := by have := ht.size; omega
  have hM := MapAt.new w18
  have t20 := ht.alloc (.map #[] 0)
  have q20 := (Tch.refl [] w18).alloc (.map #[] 0)
  have s20 := size_alloc w18 (.map #[] 0)
  generalize w18.alloc (.map #[] 0) = w20 at *
  generalize hpb : w18.heap.size = pb at *
  refine ⟨[.nilIface, .map (some pb)], by rw [zcTree]; rfl, ?_⟩
  rintro w22 rfl
  have hK : Blk _ _ [.nilIface, .map (some pb)] := Blk.fresh w20 (cs := [.nilIface, .map (some pb)]) 117 rfl
  have t22 := t20.alloc (.cells [Value.nilIface, .map (some pb)].toArray 117)
  have q22 := (Tch.refl [] w20).alloc (.cells [Value.nilIface, .map (some pb)].toArray 117)
  have s22 := size_alloc w20 (.cells [Value.nilIface, .map (some pb)].toArray 117)
  generalize w20.alloc (.cells [Value.nilIface, .map (some pb)].toArray 117) = w22 at *
  replace hM := hM.tch q22 (by simp)
  replace hnm := hnm.tch (q20.trans q22 (by simp)) (fun _ _ h => by cases h)
  generalize htb : w20.heap.size = tb at *
  by_cases h0 : 0 < xn
  rotate_left
  · rw [bif_neg (by omega)]
    have hnil : l = [] := List.length_eq_zero_iff.1 (by omega)
    refine ⟨t22, ?_⟩
    rw [if_pos hR]
    exact ⟨tb, rfl, pb, _, [], ⟨by omega, by omega⟩, ⟨by omega, by omega⟩, by omega, hK, hM, .inl ⟨hnil, rfl, rfl⟩⟩
  rw [bif_pos (by omega)]
  refine ⟨fun m x' xn' xc' i u => ∃ (k : Nat) (vs : List Value), i = k ∧ k ≤ xn ∧ m = xn - k ∧ xn' = k ∧ vs.length = k ∧ u.ownsRow (tb + 1) 22 1 (.slice x' k xc') k vs ∧ FormsIn u x' vs l ∧ Tch [] w22 u, ⟨xn, 0, [], rfl, by omega, rfl, rfl, rfl, own_nil _ _ _ _, fun i y v _ hv => by simp at hv, Tch.refl _ _⟩, ?_⟩
  rintro m w25 fa fn fc i ⟨k, vs, rfl, hk', rfl, rfl, hvl, hfo, hfi, t25⟩
  have s25 := t25.size
  by_cases hlt' : fn < xn
  · rw [bif_pos (by omega)]
    refine ⟨by omega, by omega, ?_⟩
    rw [Int.toNat_natCast]
    have hli : l[fn]? = some (l[fn]'(by omega)) := List.getElem?_eq_getElem (by omega)
    generalize l[fn]'(by omega) = y at hli
    refine (hnm.tch t25 (fun _ _ h => by cases h)).elem Lib.kC_len (by omega) (keys_get hli) ?_
    refine var_init (n := 2) (by rw [zcKey]; rfl) rfl Lib.kC_one fun w30 w31 h1 h2 h3 => ?_
    refine get_all h1 rfl ?_
    replace hfo := own_up hfo h2 (fun _ _ h => by cases h)
    replace hfi := hfi.quiet h2
    refine (Lib.bytes_c y.t y.r w31).mono ?_
    intro e w34 hby
    have hko : Lib.KeyOk y.t := hR.1 y.k (List.mem_map_of_mem (List.mem_of_getElem? hli))
    rw [if_pos hko] at hby
    obtain ⟨oa, oc, rfl, hob, t34⟩ := hby
    refine ⟨_, _, _, _, rfl, _, _, _, rfl, _, rfl, ?_⟩
    have hx31 := own_ge hfo
    replace hfo := own_up hfo t34 (fun _ _ h => by cases h)
    replace hfi := (hfi.quiet t34).snoc (y := y) (b := oa) (d := oc) (by rw [hvl]; exact hli) (own_rsl hob ones_ints) (fun z hz hm => by
      rw [mem_rowL] at hm
      obtain ⟨q, hq, he⟩ := hm
      have g1 := (hx31 q hq).2
      have g2 := (own_ge hob z hz).1
      omega) (fun z hz => (own_ge hob z hz).2)
    have s31 := h2.size
    have s34 := t34.size
    refine app_elem_at fsT hfo (by rw [zcBs]; rfl) (ys := [.slice oa 10 oc]) rfl rfl (by simp [one]) (by omega) (by omega) (by omega) fun a5 c5 w42 o5 t5 m5 => ?_
    refine ⟨xn - (fn + 1), by omega, fn + 1, vs ++ [.slice oa 10 oc], by rw [wrap_i64 (by omega) (by omega)]; omega, by omega, rfl, rfl, by simp [hvl], o5, hfi.grow t5 m5, ?_⟩
    exact ((t25.trans h2 (by simp)).trans t34 (by simp)).trans t5 fun i hi => .inr (by
        rw [mem_rowL] at hi
        obtain ⟨z, hz, rfl⟩ := hi
        have := (own_ge hfo z hz).1
        omega)
  rw [bif_neg (by omega)]
  obtain rfl : fn = xn := by omega
  have hG : GIn w25 tb pb .nilIface [] a c fa fc l := by
    refine ⟨hn ▸ hr.tch (t22.trans t25 (by simp)) (fun _ _ h => by cases h), ⟨vs, ?_, ?_⟩, hK.tch t25 (by simp), hM.tch t25 (by simp), by simp [KeysD], hT.tch (t22.trans t25 (by simp))⟩
    · rw [hn]
      refine own_rsl hfo fun v hv => ?_
      obtain ⟨i, hi⟩ := List.getElem?_of_mem hv
      have hil := (List.getElem?_eq_some_iff.1 hi).1
      obtain ⟨b, d, rfl, _⟩ := hfi i _ v (List.getElem?_eq_getElem (by omega)) hi
      rfl
    · intro i y hy
      have hil := (List.getElem?_eq_some_iff.1 hy).1
      obtain ⟨b, d, h1, h2, _⟩ := hfi i y (vs[i]'(by omega)) hy (List.getElem?_eq_getElem (by omega))
      exact ⟨b, d, by rw [← h1]; exact List.getElem?_eq_getElem (by omega), h2⟩
  have hg := grow_c l.length l w25 tb pb .nilIface [] a fa c fc (by omega) (Nat.le_refl _) (by omega) (rowsOk_of hl hR) hG
  rw [hn] at hg
  refine hg.mono ?_
  rintro e w46 ⟨v, L, rfl, hp, hm, t46⟩
  have hK25 := hG.tb
  have hv1 : one v = true := by obtain ⟨b, h | h⟩ := hp.shape <;> rw [h] <;> rfl
  have hne : tb ≠ pb := Blk.not_map hK25 hG.map
  have s46 := t46.size
  refine ⟨v, rfl, ?_⟩
  refine put_cell (hK25.tch t46 (by simpa using hne)) 0 (by simp) hv1 fun w48 k48 t48 s48 => ?_
  refine ⟨?_, ?_⟩
  · refine ((t22.trans t25 (by simp)).trans t46 (fun i hi => .inr ?_)).trans t48 (fun i hi => .inr ?_)
    · simp at hi; omega
    · simp at hi; omega
  rw [if_pos hR]
  refine ⟨tb, rfl, pb, v, L, ⟨by omega, by omega⟩, ⟨by omega, by omega⟩, hne, k48, hm.tch t48 (by simpa using hne.symm), .inr ⟨by rintro rfl; simp at hn; omega, ?_⟩⟩
  rw [hn]
  refine (hp.tch t48 ?_).mono fun z hz => ⟨by have := hz.1; omega, by have := hz.2; omega⟩
  simp only [List.mem_singleton]
  rintro _ rfl ⟨g1, g2⟩
  omega
end Go.Proofs.YtjkbjppopdfggaaDoor.Tre
namespace Go.Proofs.YtjkbjppopdfggaaDoor.Den
open Go Go.ChangeShapes Go.WideShapes Go.ChangeAt Go.RowKit
variable {H : Type} {enc : TypeId × Value → H} {P : Program}
def fieldsC (P : Program) (f : TypeId → Option (List CK)) : List Field → Nat → Option (List CK)
  | [], _ => some []
  | x :: r, o =>
    match f x.type with
    | some l =>
      if x.offset = o ∧ P.cellsOf x.type = l.length then
        match fieldsC P f r (o + l.length) with
        | some l' => some (l ++ l')
        | none => none
      else none
    | none => none
/-- The cells' kinds of a type, by the kernel. -/
def shT (P : Program) : Nat → TypeId → Option (List CK)
  | 0, _ => none
  | d + 1, t =>
    match P.underlying t with
    | some .bool => some [.bool]
    | some (.int k) => some [.int k]
    | some .string => some [.str]
    | some (.slice e) =>
      match shT P d e with
      | some l => if P.cellsOf e = l.length ∧ 0 < l.length then some [.sl l] else none
      | none => none
    | some (.array n e) =>
      match shT P d e with
      | some l => if P.cellsOf t = n * l.length ∧ P.cellsOf e = l.length then some (List.replicate n l).flatten else none
      | none => none
    | some (.struct fs) =>
      match fieldsC P (shT P d) fs.toList 0 with
      | some l => if P.cellsOf t = l.length then some l else none
      | none => none
    | _ => none
theorem mapM_cons_some {α β : Type} {g : α → Option β} {x : α} {l : List α} {ys : List β} (h : (x :: l).mapM g = some ys) : ∃ y r, g x = some y ∧ l.mapM g = some r ∧ ys = y :: r := by
  rw [List.mapM_cons] at h
  cases hx : g x with
  | none => rw [hx] at h; cases h
  | some y =>
    rw [hx] at h
    cases hr : l.mapM g with
    | none => rw [hr] at h; cases h
    | some r => rw [hr] at h; cases h; exact ⟨y, r, rfl, rfl, rfl⟩
theorem mapM_all {α β : Type} {g : α → Option β} : ∀ {l : List α} {ys : List β}, l.mapM g = some ys → ys.length = l.length ∧ ∀ x ∈ l, ∃ y, g x = some y
  | [], ys, h => by
    simp at h
    subst h
    exact ⟨rfl, by simp⟩
  | x :: l, ys, h => by
    obtain ⟨y, r, h1, h2, rfl⟩ := mapM_cons_some h
    obtain ⟨h3, h4⟩ := mapM_all h2
    exact ⟨by simp [h3], fun z hz => by
      rcases List.mem_cons.1 hz with rfl | hz
      · exact ⟨y, h1⟩
      · exact h4 z hz⟩
theorem cells?_spec {w : World} {base : Nat} {a : Addr} {n : Nat} {cs : List Value} (h : w.cells? base a n = some cs) : cs.length = n ∧ ∀ i v, cs[i]? = some v → w.cell? (a.add i) = some v := by
  unfold World.cells? at h
  split at h
  · obtain ⟨h1, h2⟩ := mapM_all h
    refine ⟨by simpa using h1, fun i v hv => ?_⟩
    have key : ∀ (l : List Nat) (cs : List Value), l.mapM (fun i => w.cell? (a.add i)) = some cs → ∀ (j k : Nat) (u : Value), l[j]? = some k → cs[j]? = some u → w.cell? (a.add k) = some u := by
      intro l
      induction l with
      | nil => intro cs _ j k u hj _; simp at hj
      | cons x l ih =>
        intro cs hcs j k u hj hu
        obtain ⟨y, r, h1, h2, rfl⟩ := mapM_cons_some hcs
        cases j with
        | zero => simp at hj hu; subst hj; subst hu; exact h1
        | succ j => exact ih r h2 j k u (by simpa using hj) (by simpa using hu)
    have hi : i < n := by have := (List.getElem?_eq_some_iff.1 hv).1; simp at h1; omega
    exact key _ _ h i i v (by simp [hi]) hv
  · cases h
theorem cell_spot {w : World} {a : Addr} {v : Value} (h : w.cell? a = some v) : a.spot = none := by
  unfold World.cell? at h
  split at h
  · split at h
    · cases h
    · rename_i hs
      simpa using hs
  · cases h
theorem rows_id (rs : List (List Value)) : rows id rs = rs.flatten := by simp [rows]
/-- A slice, from the readings of its elements. -/
theorem slice_rep {W : World} {d : Nat} {l : List CK} {a : Addr} {len cap : Nat} (hl : 0 < l.length) (hlc : len ≤ cap) (hcap : cap ≤ maxLen)
    (hel : ∀ i, i < cap → ∃ cs, W.cells? 0 (a.add (i * l.length)) l.length = some cs ∧ RepR W d l cs) : RepV W (d + 1) (.sl l) (.slice (some a) len cap) := by
  let g : Nat → List Value := fun i => (W.cells? 0 (a.add (i * l.length)) l.length).getD []
  have hg : ∀ i, i < cap → (g i).length = l.length ∧ (∀ j v, (g i)[j]? = some v → W.cell? ((a.add (i * l.length)).add j) = some v) ∧ RepR W d l (g i) := by
    intro i hi
    obtain ⟨cs, h1, h2⟩ := hel i hi
    have e : g i = cs := by show (W.cells? 0 _ _).getD [] = cs; rw [h1]; rfl
    rw [e]
    exact ⟨(cells?_spec h1).1, (cells?_spec h1).2, h2⟩
  refine ⟨some a, len, cap, (List.range len).map g, rfl, by simp, hcap, ⟨hlc, ?_, ?_, ?_⟩, ?_⟩
  · rw [← rows_id, rows_len (sz := l.length)]
    · simp
    · intro x hx
      obtain ⟨i, hi, rfl⟩ := List.mem_map.1 hx
      exact (hg i (by have := List.mem_range.1 hi; omega)).1
  · intro u hu
    obtain ⟨x, hx, hux⟩ := List.mem_flatten.1 hu
    obtain ⟨i, hi, rfl⟩ := List.mem_map.1 hx
    exact RepL.ones (hg i (by have := List.mem_range.1 hi; omega)).2.2 u hux
  · by_cases h0 : cap = 0
    · exact .inl h0
    · right
      obtain ⟨h1, h2, h3⟩ := hg 0 (by omega)
      have hc : ∃ v, (g 0)[0]? = some v := ⟨(g 0)[0], by rw [List.getElem?_eq_getElem (by omega)]⟩
      obtain ⟨v, hv⟩ := hc
      have hs := h2 0 v hv
      have e0 : (a.add (0 * l.length)).add 0 = a := by simp [Addr.add]
      rw [e0] at hs
      have hsp := cell_spot hs
      obtain ⟨b, o, s⟩ := a
      simp only at hsp
      subst hsp
      refine ⟨b, o, rfl, ?_⟩
      rw [← rows_id]
      refine cells_rows (sz := l.length) ?_ ?_
      · intro x hx
        obtain ⟨i, hi, rfl⟩ := List.mem_map.1 hx
        exact (hg i (by have := List.mem_range.1 hi; omega)).1
      · intro i x hx j v hv
        rw [List.getElem?_map, Option.map_eq_some_iff] at hx
        obtain ⟨k, hk, rfl⟩ := hx
        have hik : i < len := by have := (List.getElem?_eq_some_iff.1 hk).1; simpa using this
        obtain rfl : k = i := by have := (List.getElem?_eq_some_iff.1 hk).2; simpa using this.symm
        have := (hg k (by omega)).2.1 j v hv
        rwa [add_mk] at this
  · intro r hr
    obtain ⟨i, hi, rfl⟩ := List.mem_map.1 hr
    exact (hg i (by have := List.mem_range.1 hi; omega)).2.2
theorem rep_items {W : World} {d : Nat} {l : List CK} : ∀ (n : Nat) (cs : List Value), cs.length = n * l.length → (∀ i, i < n → RepR W d l ((cs.drop (i * l.length)).take l.length)) → RepR W d (List.replicate n l).flatten cs
  | 0, cs, h, _ => by
    rw [Nat.zero_mul] at h
    rw [List.length_eq_zero_iff.1 h]
    exact trivial
  | n + 1, cs, h, hi => by
    rw [List.replicate_succ, List.flatten_cons, ← List.take_append_drop l.length cs]
    refine RepL.append (by have := hi 0 (by omega); simpa using this) (rep_items n _ (by rw [List.length_drop, h, Nat.succ_mul]; omega) fun i hin => ?_)
    have := hi (i + 1) (by omega)
    rwa [List.drop_drop, show l.length + i * l.length = (i + 1) * l.length by rw [Nat.succ_mul]; omega]
theorem rep_fields {W : World} {d n : Nat} (IH : ∀ (t : TypeId) (ks : List CK), shT P d t = some ks → ∀ cs x, DataW.trod enc P W 0 (fun _ => true) true n t cs = some x → RepR W d ks cs) :
    ∀ (fs : List Field) (pre cs : List Value) (ks : List CK), fieldsC P (shT P d) fs pre.length = some ks → cs.length = ks.length →
      (∀ f ∈ fs, ∃ y, DataW.trod enc P W 0 (fun _ => true) true n f.type (((pre ++ cs).drop f.offset).take (P.cellsOf f.type)) = some y) → RepR W d ks cs
  | [], pre, cs, ks, h, hl, _ => by
    simp only [fieldsC, Option.some.injEq] at h
    subst h
    rw [List.length_eq_zero_iff.1 hl]
    exact trivial
  | f :: fs, pre, cs, ks, h, hl, hx => by
    unfold fieldsC at h
    split at h
    · rename_i l hfl
      split at h
      · rename_i hc
        obtain ⟨ho, hsz⟩ := hc
        split at h
        · rename_i l' hr
          simp only [Option.some.injEq] at h
          subst h
          rw [List.length_append] at hl
          obtain ⟨y, h1⟩ := hx f (by simp)
          rw [ho, List.drop_left, hsz] at h1
          have hy := IH f.type l hfl _ _ h1
          rw [← List.take_append_drop l.length cs]
          refine RepL.append hy ?_
          have e : pre ++ cs = (pre ++ cs.take l.length) ++ cs.drop l.length := by rw [List.append_assoc, List.take_append_drop]
          have hpl : (pre ++ cs.take l.length).length = pre.length + l.length := by rw [List.length_append, List.length_take]; omega
          refine rep_fields IH fs (pre ++ cs.take l.length) (cs.drop l.length) l' (by rw [hpl]; exact hr) (by rw [List.length_drop]; omega) ?_
          rw [← e]
          exact fun g hg => hx g (by simp [hg])
        · cases h
      · cases h
    · cases h
/-- What is read is so. -/
theorem open_rep {W : World} : ∀ (d n : Nat) (t : TypeId) (ks : List CK), shT P d t = some ks → ∀ cs x, DataW.trod enc P W 0 (fun _ => true) true n t cs = some x → RepR W d ks cs
  | 0, _, _, _, h => by simp [shT] at h
  | d + 1, n, t, ks, h => by
    intro cs x hx
    unfold shT at h
    split at h
    · rename_i hu
      cases h
      obtain ⟨b, rfl, _⟩ := DataW.trod_bool hu hx
      exact ⟨trivial, trivial⟩
    · rename_i k hu
      cases h
      obtain ⟨m, rfl, _, hw⟩ := DataW.trod_int hu hx
      exact ⟨⟨rfl, hw⟩, trivial⟩
    · rename_i hu
      cases h
      obtain ⟨s, rfl, _, hw⟩ := DataW.trod_string hu hx
      exact ⟨hw, trivial⟩
    · rename_i e hu
      split at h
      · rename_i l hl
        split at h
        · rename_i hc
          cases h
          obtain ⟨hc1, hc2⟩ := hc
          rcases DataW.trod_slice hu hx with ⟨rfl, _⟩ | ⟨a, len, cap, elems, rest, m, rfl, rfl, _, _, hlc, hcap, hel, h1, h2, _⟩
          · exact ⟨⟨none, 0, 0, [], rfl, rfl, Nat.zero_le _, ⟨Nat.le_refl _, by simp, by simp, .inl rfl⟩, by simp⟩, trivial⟩
          · refine ⟨slice_rep hc2 hlc hcap fun i hi => ?_, trivial⟩
            obtain ⟨hr1, hr2⟩ := h2 rfl
            have hb : ∃ y, (W.cells? 0 (a.add (i * P.cellsOf e)) (P.cellsOf e)).bind (DataW.trod enc P W 0 (fun _ => true) true m e) = some y := by
              by_cases hil : i < len
              · rw [h1 i hil]; exact ⟨elems[i], by rw [List.getElem?_eq_getElem (by omega)]⟩
              · have := hr2 (i - len) (by omega)
                rw [show len + (i - len) = i by omega] at this
                rw [this]; exact ⟨rest[i - len], by rw [List.getElem?_eq_getElem (by omega)]⟩
            obtain ⟨y, hy⟩ := hb
            rw [Option.bind_eq_some_iff] at hy
            obtain ⟨cs, g1, g2⟩ := hy
            rw [hc1] at g1
            exact ⟨cs, g1, open_rep d m e l hl cs y g2⟩
        · cases h
      · cases h
    · rename_i k e hu
      split at h
      · rename_i l hl
        split at h
        · rename_i hc
          cases h
          obtain ⟨hc1, hc2⟩ := hc
          obtain ⟨xs, m, rfl, _, hlen, hxl, hi⟩ := DataW.trod_array hu hx
          refine (rep_items k cs (by rw [hlen, hc1]) fun i hik => ?_).mono fun _ _ => RepV.up
          have := hi i hik
          rw [hc2, List.getElem?_eq_getElem (by omega)] at this
          exact open_rep d m e l hl _ _ this
        · cases h
      · cases h
    · rename_i fs hu
      split at h
      · rename_i l hl
        split at h
        · rename_i hc
          cases h
          obtain ⟨xs, m, rfl, _, hlen, hxl, hi⟩ := DataW.trod_struct hu hx
          refine (rep_fields (n := m) (fun t ks h cs x hx => open_rep d m t ks h cs x hx) fs.toList [] cs ks hl (by rw [hlen, hc]) fun f hf => ?_).mono fun _ _ => RepV.up
          obtain ⟨i, hif⟩ := List.getElem?_of_mem hf
          have := hi i f (by simpa using hif)
          have hlt : i < xs.length := by rw [hxl]; have := (List.getElem?_eq_some_iff.1 hif).1; simpa using this
          rw [List.getElem?_eq_getElem hlt] at this
          exact ⟨_, this⟩
        · cases h
      · cases h
    · cases h
end Go.Proofs.YtjkbjppopdfggaaDoor.Den
