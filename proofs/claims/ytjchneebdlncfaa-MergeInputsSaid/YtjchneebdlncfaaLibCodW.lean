/-
  A WRITER OF BYTES: contracts of New, Byte, Uint, Int, Raw, Bytes, Len, Out.
  Own work. No macro, syntax, notation, axiom.
-/
import Derived.Test.YtjchneebdlncfaaLibCodS
import Derived.Test.YtjchneebdlncfaaLibClone
import Derived.Test.YtjchneebdlncfaaDenWords10
namespace Go.Proofs.Ytjchneebdlncfaa.Lib
open Go Den Fn
open Go.RowKit (Below)
set_option maxRecDepth 8000
set_option maxHeartbeats 1000000

/-- A writer at a block: its bytes lie in a row of its own. -/
def Wr (w : World) (b : Nat) (a : Option Addr) (bs : List Int) : Prop :=
  ∃ c, Blk w b [.slice a bs.length c] ∧ w.ownsRow (b + 1) 5 1 (.slice a bs.length c) bs.length (u8 bs)
/-- Behind a call: it has these bytes; and what it has touched. -/
def WrR (w w' : World) (b : Nat) (a : Option Addr) (bs : List Int) : Prop := Tch (b :: rowL a) w w' ∧ ∃ a', Wr w' b a' bs ∧ Moved a a' w.heap.size
theorem Wr.lt {w : World} {b : Nat} {a : Option Addr} {bs : List Int} (h : Wr w b a bs) : b < w.heap.size := h.elim fun _ h => h.1.lt
theorem Wr.row {w : World} {b : Nat} {a : Option Addr} {bs : List Int} (h : Wr w b a bs) : ∀ i ∈ rowL a, b + 1 ≤ i ∧ i < w.heap.size := h.elim fun _ h => rowL_ge h.2
theorem Wr.keep {w w' : World} {b : Nat} {a : Option Addr} {bs : List Int} (h : Wr w b a bs) (hk : ∀ k, (k = b ∨ blkOf a k) → k < w.heap.size → w'.heap[k]? = w.heap[k]?) : Wr w' b a bs := by
  obtain ⟨c, h1, h2⟩ := h
  exact ⟨c, h1.of_heap (hk b (.inl rfl) h1.lt), own_keep' h2 fun k hb hlt => hk k (.inr hb) hlt⟩
def fWr (b : Nat) (a : Option Addr) (bs : List Int) : Fact := ⟨fun w => Wr w b a bs, fun k => k = b ∨ blkOf a k, fun h hk => h.keep hk⟩
theorem Wr.quiet {w w' : World} {b : Nat} {a : Option Addr} {bs : List Int} (h : Wr w b a bs) (ht : Tch [] w w') : Wr w' b a bs := h.keep fun k _ hlt => ht.block k hlt (by simp)
theorem WrR.below {w w' : World} {b : Nat} {a : Option Addr} {bs bs' : List Int} (h : WrR w w' b a bs') (h0 : Wr w b a bs) : Below b w w' :=
  tch_base h.1 (Nat.le_of_lt h0.lt) fun i hi => by
    rcases List.mem_cons.1 hi with rfl | hi
    · exact Nat.le_refl _
    · have := h0.row i hi; omega
theorem WrR.trans {w w1 w2 : World} {b : Nat} {a a1 : Option Addr} {bs : List Int} (h : Tch (b :: rowL a) w w1) (hm : Moved a a1 w.heap.size) (k : WrR w1 w2 b a1 bs) : WrR w w2 b a bs := by
  obtain ⟨k1, a2, k2, k3⟩ := k
  refine ⟨h.trans k1 fun i hi => ?_, a2, k2, hm.trans k3 h.size⟩
  rcases List.mem_cons.1 hi with rfl | hi
  · exact .inl (by simp)
  · rw [mem_rowL] at hi
    obtain ⟨x, hx, rfl⟩ := hi
    rcases hm x hx with hk | hk
    · exact .inl (List.mem_cons_of_mem _ hk)
    · exact .inr hk
/-- The new slice is put into the writer. -/
theorem wr_put {w w7 : World} {b : Nat} {a a' : Option Addr} {n c' : Nat} {old : List Value} {bs : List Int} (hb : Blk w7 b [old.getD 0 (.bool false)]) (hn : n = bs.length) (hown : w7.ownsRow (b + 1) 5 1 (.slice a' n c') n (u8 bs)) (ht : Tch (b :: rowL a) w w7) (hm : Moved a a' w.heap.size) {K : World → Prop}
    (hK : ∀ w', WrR w w' b a bs → K w') :
    one (.slice a' n c') = true ∧ Option.isSome (World.cell? w7 (Addr.add ⟨b, 0, none⟩ 0)) = true ∧ World.frozen? w7 (Addr.add ⟨b, 0, none⟩ 0) = false ∧ ∀ w10 : World, w10 = World.setCell w7 (Addr.add ⟨b, 0, none⟩ 0) (.slice a' n c') → K w10 := by
  subst hn
  rw [add_mk]
  refine ⟨rfl, by rw [hb.cell]; rfl, hb.frozen _, ?_⟩
  rintro w10 rfl
  refine hK _ ⟨ht.setCell (.inl (by simp)) _, a', ⟨c', ?_, ?_⟩, hm⟩
  · have := hb.set 0 (.slice a' bs.length c')
    simpa using this
  · refine own_keep' hown fun k hk _ => Below.heap_setCell _ _ _ _ ?_
    have := rowL_ge hown k (mem_rowL.2 hk)
    show k ≠ b
    omega
theorem wr_byte {w : World} {b : Nat} {a : Option Addr} {bs : List Int} {v : Int} (h : Wr w b a bs) (hl : bs.length < 140737488355328) {K : World → Prop} (hK : ∀ w', WrR w w' b a (bs ++ [v]) → K w') :
    optK (some ⟨b, 0, none⟩) fun a2 => ∃ (x3 : Option Addr) (x3n : Nat) (x3c : Nat), World.cell? w (Addr.add a2 0) = some (.slice x3 x3n x3c) ∧
      ∃ cs4, fillL (.elems 1) (zrep (zc Try.prog 5) (1 * 1)) [(0, (.int .u8 v))] = some cs4 ∧
      ∀ w5 : World, w5 = World.alloc w (.cells (List.toArray cs4) 5) →
      RunV Try.prog (Builtin.append_ #[98, 98] 98 #[(.slice x3 x3n x3c), (.slice (some ⟨World.heap w |>.size, 0, none⟩) 1 1)]) w5 fun v6 w7 => ∃ (x8 : Option Addr) (x8n : Nat) (x8c : Nat), v6 = (.slice x8 x8n x8c) ∧
      optK (some ⟨b, 0, none⟩) fun a9 => one (.slice x8 x8n x8c) = true ∧ Option.isSome (World.cell? w7 (Addr.add a9 0)) = true ∧ World.frozen? w7 (Addr.add a9 0) = false ∧
      ∀ w10 : World, w10 = World.setCell w7 (Addr.add a9 0) (.slice x8 x8n x8c) → K w10 := by
  obtain ⟨c, h1, h2⟩ := h
  refine ⟨a, _, c, by rw [add_mk]; exact h1.cell 0, ?_⟩
  have hlt := h1.lt
  refine app_elem_at bT h2 (by rw [zc8]; rfl) (ys := u8 [v]) rfl rfl ones_ints (by omega) (by omega) (by omega) fun a' c' w7 k1 k2 k3 => ?_
  rw [← List.map_append] at k1
  refine wr_put (old := [.slice a bs.length c]) (h1.tch k2 ?_) (by simp) k1 (k2.weaken fun i hi => .inl (List.mem_cons_of_mem _ hi)) k3 hK
  intro hm
  have := rowL_ge h2 b hm
  omega
theorem wr_raw {w : World} {b : Nat} {a : Option Addr} {bs ys : List Int} {xa : Option Addr} {xn xc : Nat} (h : Wr w b a bs) (hx : RSl w 1 xa xn xc (u8 ys)) (hl : bs.length + xn ≤ 140737488355328) {K : World → Prop} (hK : ∀ w', WrR w w' b a (bs ++ ys) → K w') :
    optK (some ⟨b, 0, none⟩) fun a2 => ∃ (x3 : Option Addr) (x3n : Nat) (x3c : Nat), World.cell? w (Addr.add a2 0) = some (.slice x3 x3n x3c) ∧
      RunV Try.prog (Builtin.append_ #[98, 98] 98 #[(.slice x3 x3n x3c), (.slice xa xn xc)]) w fun v6 w7 => ∃ (x8 : Option Addr) (x8n : Nat) (x8c : Nat), v6 = (.slice x8 x8n x8c) ∧
      optK (some ⟨b, 0, none⟩) fun a9 => one (.slice x8 x8n x8c) = true ∧ Option.isSome (World.cell? w7 (Addr.add a9 0)) = true ∧ World.frozen? w7 (Addr.add a9 0) = false ∧
      ∀ w10 : World, w10 = World.setCell w7 (Addr.add a9 0) (.slice x8 x8n x8c) → K w10 := by
  obtain ⟨c, h1, h2⟩ := h
  refine ⟨a, _, c, by rw [add_mk]; exact h1.cell 0, ?_⟩
  have hlt := h1.lt
  have hxl := u8_len hx
  refine app_at bT h2 hx (by omega) (by omega) (by omega) fun a' c' w7 k1 k2 k3 => ?_
  rw [← List.map_append] at k1
  refine wr_put (old := [.slice a bs.length c]) (h1.tch k2 ?_) (by simp; omega) k1 (k2.weaken fun i hi => .inl (List.mem_cons_of_mem _ hi)) k3 hK
  intro hm
  have := rowL_ge h2 b hm
  omega
theorem zcWriter : zc Try.prog 139 = [.slice none 0 0] := by kernel_rfl
theorem new_c (w : World) : Calls Try.prog 58 #[] w fun e w' => e = .returned (.pointer (some ⟨w.heap.size, 0, none⟩)) ∧ Wr w' w.heap.size none [] ∧ Tch [] w w' := by
  refine c58 ?_
  unfold d58
  refine ⟨[.slice none 0 0], by rw [zcWriter]; rfl, ?_⟩
  rintro w1 rfl
  exact ⟨rfl, ⟨0, Blk.fresh _ _ rfl, own_nil _ _ _ _⟩, (Tch.refl [] w).alloc _⟩
theorem raw_c (w : World) (b : Nat) (a : Option Addr) (bs ys : List Int) (xa : Option Addr) (xn xc : Nat) (h : Wr w b a bs) (hx : RSl w 1 xa xn xc (u8 ys)) (hl : bs.length + xn ≤ 140737488355328) :
    Calls Try.prog 62 #[.pointer (some ⟨b, 0, none⟩), .slice xa xn xc] w fun e w' => e = .returned (.tuple #[]) ∧ WrR w w' b a (bs ++ ys) := by
  refine c62 _ _ _ _ ?_
  unfold d62
  exact wr_raw h hx hl fun w' hw => ⟨rfl, hw⟩
theorem or128 {n : Nat} : bOr .u8 (IntKind.wrap .u8 (n : Int)) 128 = ((n % 128 + 128 : Nat) : Int) := by
  have key : ∀ m : Fin 256, bOr .u8 (m.val : Int) 128 = ((m.val % 128 + 128 : Nat) : Int) := by decide +kernel
  have h := key ⟨n % 256, by omega⟩
  simp only at h
  rw [wrap_u8_eq, show (n : Int) % 256 = ((n % 256 : Nat) : Int) by omega, h]
  congr 2
  omega
theorem uint_c (w : World) (b : Nat) (a : Option Addr) (bs : List Int) (n : Nat) (h : Wr w b a bs) (hn : n < 18446744073709551616) (hl : bs.length + 10 ≤ 140737488355328) :
    Calls Try.prog 59 #[.pointer (some ⟨b, 0, none⟩), .int .u64 n] w fun e w' => e = .returned (.tuple #[]) ∧ WrR w w' b a (bs ++ uv n) := by
  refine c59 _ _ ?_
  unfold d59
  refine ⟨fun m x w' => ∃ (k : Nat) (pre : List Int) (a1 : Option Addr), x = k ∧ m = k ∧ k < 18446744073709551616 ∧ uv n = pre ++ uv k ∧ Wr w' b a1 (bs ++ pre) ∧ Tch (b :: rowL a) w w' ∧ Moved a a1 w.heap.size, ⟨n, n, [], a, rfl, rfl, hn, rfl, by simpa using h, Tch.refl _ _, Moved.refl _ _⟩, ?_⟩
  rintro m w4 x ⟨k, pre, a1, rfl, rfl, hk, hu, hw, ht, hm⟩
  have hl10 := (uv_len10 hn).2
  have hl1 := (uv_len10 hk).1
  rw [hu, List.length_append] at hl10
  by_cases h1 : 128 ≤ m
  · rw [bif_pos (by omega)]
    refine wr_byte hw (by rw [List.length_append]; omega) fun w' hw' => ⟨by omega, ?_⟩
    obtain ⟨t1, a2, t2, t3⟩ := WrR.trans ht hm hw'
    rw [show (7 : Int) = ((7 : Nat) : Int) from rfl, shR_nat (k := .u64) 7 (by decide), show (m : Int) / 2 ^ 7 = ((m / 128 : Nat) : Int) by omega]
    refine ⟨m / 128, by omega, m / 128, pre ++ [((m % 128 + 128 : Nat) : Int)], a2, rfl, rfl, by omega, ?_, ?_, t1, t3⟩
    · rw [hu, uv_hi h1, List.append_assoc]
      rfl
    · rw [or128, List.append_assoc] at t2
      exact t2
  · rw [bif_neg (by omega)]
    refine wr_byte hw (by rw [List.length_append]; omega) fun w' hw' => ⟨rfl, ?_⟩
    have := WrR.trans ht hm hw'
    rw [wrap_u8 (by omega) (by omega), List.append_assoc] at this
    rw [hu, uv_lo (by omega)]
    exact this
theorem zig {n : Int} (h : I64 n) : bXor .u64 (shL .u64 (IntKind.wrap .u64 n) 1) (IntKind.wrap .u64 (shR .i64 n 63)) = (fold n : Int) := by
  unfold I64 at h
  have e2 : shR .i64 n 63 = if 0 ≤ n then 0 else -1 := by
    rw [show (63 : Int) = ((63 : Nat) : Int) from rfl, shR_nat (k := .i64) 63 (by decide)]
    split <;> omega
  have e1 : shL .u64 (IntKind.wrap .u64 n) 1 = if 0 ≤ n then 2 * n else 18446744073709551616 + 2 * n := by
    unfold shL
    rw [wrap_u64_eq, wrap_u64_eq, show min (Int.toNat 1) (IntKind.bits .u64) = 1 from rfl]
    split <;> omega
  rw [e1, e2]
  unfold fold
  split
  · rename_i h0
    obtain ⟨k, rfl⟩ := Int.eq_ofNat_of_zero_le h0
    rw [show IntKind.wrap .u64 0 = 0 from rfl]
    unfold bXor
    rw [BitVec.toNat_xor, toNat_ofInt (n := IntKind.bits .u64) (by omega) (by show (2 * (k : Int)) < 18446744073709551616; omega), show (BitVec.ofInt (IntKind.bits .u64) 0).toNat = 0 from rfl, Nat.xor_zero, wrap_u64 (by omega) (by omega)]
    omega
  · rename_i h0
    rw [show IntKind.wrap .u64 (-1) = 18446744073709551615 from rfl]
    have hx : ∀ x : BitVec 64, (x ^^^ 18446744073709551615#64).toNat = 18446744073709551615 - x.toNat := by
      intro x
      rw [show (18446744073709551615#64 : BitVec 64) = BitVec.allOnes 64 from rfl, BitVec.xor_allOnes, BitVec.toNat_not]
    unfold bXor
    show IntKind.wrap .u64 (((BitVec.ofInt 64 (18446744073709551616 + 2 * n) ^^^ 18446744073709551615#64).toNat : Nat) : Int) = _
    rw [hx, toNat_ofInt (n := 64) (by omega) (by show (18446744073709551616 + 2 * n) < 18446744073709551616; omega), wrap_u64 (by omega) (by omega)]
    omega
theorem int_c (w : World) (b : Nat) (a : Option Addr) (bs : List Int) (n : Int) (h : Wr w b a bs) (hn : I64 n) (hl : bs.length + 10 ≤ 140737488355328) :
    Calls Try.prog 60 #[.pointer (some ⟨b, 0, none⟩), .int .i64 n] w fun e w' => e = .returned (.tuple #[]) ∧ WrR w w' b a (bs ++ iv n) := by
  refine c60 _ _ ?_
  unfold d60
  refine ⟨by omega, by omega, ?_⟩
  rw [zig hn]
  refine (uint_c w b a bs (fold n) h (fold_range hn) hl).mono ?_
  rintro e w' ⟨rfl, hw⟩
  exact ⟨rfl, rfl, hw⟩
theorem out_c (w : World) (b : Nat) (a : Option Addr) (bs : List Int) (h : Wr w b a bs) (hl : bs.length ≤ 140737488355328) :
    Calls Try.prog 63 #[.pointer (some ⟨b, 0, none⟩)] w fun e w' => ∃ a' c', e = .returned (.slice a' bs.length c') ∧ w'.ownsRow w.heap.size 5 1 (.slice a' bs.length c') bs.length (u8 bs) ∧ Tch [] w w' := by
  refine c63 _ ?_
  unfold d63
  obtain ⟨c, h1, h2⟩ := h
  refine ⟨a, _, c, by rw [add_mk]; exact h1.cell 0, ?_⟩
  refine (clone_c w bs a _ c (own_rsl h2 ones_ints) hl).mono ?_
  rintro e w' ⟨a', c', rfl, hown, ht⟩
  exact ⟨_, _, _, rfl, a', c', rfl, hown, ht⟩
end Go.Proofs.Ytjchneebdlncfaa.Lib
