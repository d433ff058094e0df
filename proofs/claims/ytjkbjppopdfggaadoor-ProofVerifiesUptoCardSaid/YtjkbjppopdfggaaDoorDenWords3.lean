/-
  WORDS FOR CONTRACTS: what a run has touched ('Tch'), copy, bits as numbers, rows of numbers.
  Own work. No macro, syntax, notation, axiom.
-/
import Derived.Test.YtjkbjppopdfggaaDoorDenWords2
import Derived.Laws.CopyRow
namespace Go.Proofs.YtjkbjppopdfggaaDoor.Den
open Go
open Go.RowKit (Below)

/-! ### Choices -/
theorem bif_pos {p : Prop} [Decidable p] {A B : Prop} (h : p) : (bif decide p then A else B) = A := by rw [decide_eq_true h]; rfl
theorem bif_neg {p : Prop} [Decidable p] {A B : Prop} (h : ¬ p) : (bif decide p then A else B) = B := by rw [decide_eq_false h]; rfl
theorem bif_npos {p : Prop} [Decidable p] {A B : Prop} (h : p) : (bif !decide p then A else B) = B := by rw [decide_eq_true h]; rfl
theorem bif_nneg {p : Prop} [Decidable p] {A B : Prop} (h : ¬ p) : (bif !decide p then A else B) = A := by rw [decide_eq_false h]; rfl

/-! ### What is touched -/
/-- Of the blocks that were there, at most these have turned. -/
structure Tch (s : List Nat) (w w' : World) : Prop where
  os : w'.os = w.os
  tape : w'.tape = w.tape
  output : w'.output = w.output
  size : w.heap.size ≤ w'.heap.size
  block : ∀ k, k < w.heap.size → k ∉ s → w'.heap[k]? = w.heap[k]?
theorem Tch.refl (s : List Nat) (w : World) : Tch s w w := ⟨rfl, rfl, rfl, Nat.le_refl _, fun _ _ _ => rfl⟩
theorem Tch.trans {s t : List Nat} {a b c : World} (h : Tch s a b) (k : Tch t b c) (hs : ∀ i ∈ t, i ∈ s ∨ a.heap.size ≤ i) : Tch s a c :=
  ⟨k.os.trans h.os, k.tape.trans h.tape, k.output.trans h.output, Nat.le_trans h.size k.size, fun i hi hn =>
    (k.block i (Nat.lt_of_lt_of_le hi h.size) fun hm => (hs i hm).elim hn fun h2 => by omega).trans (h.block i hi hn)⟩
theorem Tch.drew {s : List Nat} {a w : World} (h : Tch s a w) : Tch s a w.drew := ⟨h.os, h.tape, h.output, h.size, h.block⟩
theorem Tch.alloc {s : List Nat} {a w : World} (h : Tch s a w) (o : Obj) : Tch s a (w.alloc o) :=
  ⟨h.os, h.tape, h.output, by have := h.size; show _ ≤ (w.heap.push o).size; simp; omega, fun i hi hn => (Below.heap_alloc w o i (Nat.lt_of_lt_of_le hi h.size)).trans (h.block i hi hn)⟩
theorem Tch.setCell {s : List Nat} {a w : World} (h : Tch s a w) {p : Addr} (hp : p.block ∈ s ∨ a.heap.size ≤ p.block) (u : Value) : Tch s a (w.setCell p u) :=
  ⟨h.os, h.tape, h.output, by have := h.size; simp [World.setCell]; omega, fun i hi hn => (Below.heap_setCell w p u i (fun e => by subst e; exact hp.elim hn (by omega))).trans (h.block i hi hn)⟩
theorem Tch.setCells {s : List Nat} {a : World} {b o : Nat} (hp : b ∈ s ∨ a.heap.size ≤ b) : ∀ {vs : List Value} {i : Nat} {w : World}, Tch s a w → Tch s a (setCells w ⟨b, o, none⟩ vs i)
  | [], _, _, h => h
  | v :: r, i, w, h => by
    unfold Den.setCells
    rw [add_mk]
    exact Tch.setCells hp (h.setCell hp v)
theorem Tch.of_below {a w : World} (h : Below a.heap.size a w) : Tch [] a w := ⟨h.os, h.tape, h.output, h.size, fun i hi _ => h.block i hi⟩
theorem Tch.below {a w : World} (h : Tch [] a w) : Below a.heap.size a w := ⟨h.os, h.tape, h.output, h.size, fun i hi => h.block i hi (by simp)⟩
theorem Tch.below' {s : List Nat} {a w : World} (h : Tch s a w) {B : Nat} (hB : B ≤ a.heap.size) (hs : ∀ i ∈ s, B ≤ i) : Below B a w :=
  ⟨h.os, h.tape, h.output, h.size, fun i hi => h.block i (by omega) fun hm => by have := hs i hm; omega⟩
theorem Tch.grown {s : List Nat} {a w w' : World} (h : Tch s a w) {row : Option Nat} (hg : w.grownBy w' row) (hr : ∀ k, row = some k → k ∈ s ∨ a.heap.size ≤ k) : Tch s a w' :=
  ⟨hg.os.trans h.os, hg.tape.trans h.tape, hg.output.trans h.output, Nat.le_trans h.size hg.size, fun i hi hn =>
    (hg.block i (Nat.lt_of_lt_of_le hi h.size) fun e => (hr i e.symm).elim hn (by omega)).trans (h.block i hi hn)⟩
theorem Tch.weaken {s t : List Nat} {a w : World} (h : Tch s a w) (hs : ∀ i ∈ s, i ∈ t ∨ a.heap.size ≤ i) : Tch t a w :=
  ⟨h.os, h.tape, h.output, h.size, fun i hi hn => h.block i hi fun hm => (hs i hm).elim hn (by omega)⟩
theorem Blk.tch {s : List Nat} {w w' : World} {b : Nat} {cs : List Value} (h : Blk w b cs) (ht : Tch s w w') (hb : b ∉ s) : Blk w' b cs := h.of_heap (ht.block b h.lt hb)
theorem own_tch {s : List Nat} {w w' : World} {base e size : Nat} {v : Value} {n : Nat} {xs : List Value} (h : w.ownsRow base e size v n xs) (ht : Tch s w w') (hs : ∀ k ∈ s, k < base) : w'.ownsRow base e size v n xs :=
  own_keep h fun k hk => ht.block k (own_lt h hk).2 fun hm => by have := hs k hm; have := (own_lt h hk).1; omega

/-! ### Rows of numbers -/
theorem ints_get {k : IntKind} {l : List Int} {o : Nat} (h : o < l.length) : (l.map (Value.int k))[o]? = some (.int k (l.getD o 0)) := by simp [h]
theorem Blk.int {w : World} {b : Nat} {k : IntKind} {l : List Int} (h : Blk w b (l.map (Value.int k))) {o : Nat} (ho : o < l.length) : w.cell? ⟨b, o, none⟩ = some (.int k (l.getD o 0)) := by rw [h.cell, ints_get ho]
theorem Blk.setInt {w : World} {b : Nat} {k : IntKind} {l : List Int} (h : Blk w b (l.map (Value.int k))) (o : Nat) (v : Int) : Blk (w.setCell ⟨b, o, none⟩ (.int k v)) b ((l.set o v).map (Value.int k)) := by
  rw [List.map_set]; exact h.set o _
theorem ones_ints {k : IntKind} {l : List Int} : ∀ u ∈ l.map (Value.int k), one u = true := by
  intro u hu
  obtain ⟨x, _, rfl⟩ := List.mem_map.1 hu
  rfl
theorem RSl.int {w : World} {n c : Nat} {a : Option Addr} {k : IntKind} {l : List Int} (h : RSl w 1 a n c (l.map (Value.int k))) {i : Nat} (hi : i < n) :
    ∃ b o, a = some ⟨b, o, none⟩ ∧ w.cell? ⟨b, o + i, none⟩ = some (.int k (l.getD i 0)) := by
  have := h.len
  simp at this
  exact h.get1 (ints_get (by omega))

theorem Blk.fresh (w : World) {cs ds : List Value} (T : TypeId) (h : cs = ds) : Blk (w.alloc (.cells cs.toArray T)) w.heap.size ds := by
  subst h
  have := Blk.new w cs.toArray T
  rwa [List.toList_toArray] at this
theorem size_alloc (w : World) (o : Obj) : (w.alloc o).heap.size = w.heap.size + 1 := by
  show (w.heap.push o).size = _
  simp

/-! ### Slices of another block -/
def Off (s : List Nat) (a : Option Addr) : Prop := ∀ x, a = some x → x.block ∉ s
theorem block_add (a : Addr) (n : Nat) : (a.add n).block = a.block := by
  unfold Addr.add; split <;> rfl
theorem Off.sub {s : List Nat} {a : Option Addr} (h : Off s a) (p : Prop) [Decidable p] (k : Nat) : Off s (if p then a else a.map fun y => y.add k) := by
  split
  · exact h
  · intro x hx
    cases a with
    | none => cases hx
    | some y =>
      simp only [Option.map_some, Option.some.injEq] at hx
      rw [← hx, block_add]; exact h y rfl
theorem RSl.tch {s : List Nat} {w w' : World} {sz n c : Nat} {a : Option Addr} {cs : List Value} (h : RSl w sz a n c cs) (ht : Tch s w w') (hs : Off s a) : RSl w' sz a n c cs := by
  refine ⟨h.cap, h.len, h.ones, ?_⟩
  rcases h.at' with h' | ⟨b, o, h1, h2⟩
  · exact .inl h'
  · refine .inr ⟨b, o, h1, fun i v hv => ?_⟩
    have := h2 i v hv
    rw [add_mk] at this ⊢
    rw [World.cell?_of_block (w := w) (ht.block b (World.block_lt_of_cell? _ _ this) (hs _ h1))]
    exact this
theorem own_off {w : World} {base e size : Nat} {a : Option Addr} {n c : Nat} {xs : List Value} (h : w.ownsRow base e size (.slice a n c) n xs) {s : List Nat} (hs : ∀ k ∈ s, k < base) : Off s a := by
  intro x hx
  obtain ⟨hl, ⟨hv, hn⟩ | ⟨g, cap, cur, hv, hg, r⟩⟩ := h
  · cases hv; cases hx
  · cases hv
    simp only [Option.some.injEq] at hx
    subst hx
    exact fun hm => by have := hs _ hm; simp at this; omega
theorem tdiv_nat (a b : Nat) : Int.tdiv (a : Int) (b : Int) = ((a / b : Nat) : Int) := rfl
theorem tmod_nat (a b : Nat) : Int.tmod (a : Int) (b : Int) = ((a % b : Nat) : Int) := rfl

/-! ### copy -/
/-- A copy into a block. -/
theorem cpy {P : Program} {dT sT ty e bytes : TypeId} (hT : slT P dT e 1 bytes = true) {w : World} {g o dn dc : Nat} {cur : List Value} (hg : Blk w g cur) {b : Option Addr} {sn sc : Nat} {ys : List Value}
    (hy : RSl w 1 b sn sc ys) (hfit : o + min sn dn ≤ cur.length) {K : Value → World → Prop}
    (hK : ∀ w', Blk w' g (splice cur o (ys.take (min sn dn))) → Tch [g] w w' → w'.heap.size = w.heap.size → K (.int .i64 ((min sn dn : Nat) : Int)) w') :
    RunV P (Builtin.copy_ #[dT, sT] ty #[.slice (some ⟨g, o, none⟩) dn dc, .slice b sn sc]) w K := by
  obtain ⟨h1, h2, i, z, h3, h4, h5, h6, h7⟩ := slT_spec hT
  obtain ⟨T, hg⟩ := hg
  have hlen : (ys.take (min sn dn)).length = min sn dn := by have := hy.len; rw [List.length_take]; omega
  have hsr : ∀ cs : Array Value, Tch [g] w (w.setRow g cs) ∧ (w.setRow g cs).heap.size = w.heap.size := fun cs =>
    ⟨⟨rfl, rfl, rfl, by simp [World.setRow], fun k _ hn => by
      have : g ≠ k := fun e => hn (by simp [e])
      simp [World.setRow, Array.getElem?_modify, this]⟩, by simp [World.setRow]⟩
  obtain ⟨rfl, hc⟩ | ⟨ad, rfl, hcells⟩ := hy.from
  · have hn : sn = 0 := by have := hy.cap; omega
    subst hn; subst hc
    refine ⟨_, _, run_copy_nil P w dT sT ty e ⟨g, o, none⟩ dn dc h1 (by rw [h3]; rfl), ?_⟩
    rw [Nat.zero_min] at hK
    exact hK w ⟨T, by simp [splice]; exact hg⟩ (Tch.refl _ _) rfl
  · refine ⟨_, _, run_copy_row P w dT sT ty e g o dn dc ad sn sc cur.toArray T (ys.take (min sn dn)) h1 (by rw [h3]; simp [h5]) hg hlen (fun j v hv => hcells j v (by rw [List.getElem?_take] at hv; split at hv; exact hv; cases hv)) (by rw [hlen]; simpa using hfit) (fun v hv => by rw [← one_eq]; exact hy.ones v (List.mem_of_mem_take hv)), ?_⟩
    rw [hlen]
    refine hK _ ⟨T, ?_⟩ (hsr _).1 (hsr _).2
    rw [setRow_heap w g cur.toArray _ T (0, 0) hg]
    simp [splice, hlen]

/-! ### Bits as numbers -/
theorem toNat_ofInt {n : Nat} {x : Int} (h0 : 0 ≤ x) (h1 : x < 2 ^ n) : (BitVec.ofInt n x).toNat = x.toNat := by
  rw [BitVec.toNat_ofInt]
  congr 1
  exact Int.emod_eq_of_lt h0 (by exact_mod_cast h1)
/-- Two numbers without a common bit: or is plus. -/
theorem or_plus {a b : Nat} (n : Nat) (h : b < 2 ^ n) : a * 2 ^ n ||| b = a * 2 ^ n + b := by
  rw [Nat.mul_comm, ← Nat.two_pow_add_eq_or_of_lt h]
theorem bOr_u32 {a b : Nat} (n : Nat) (h : b < 2 ^ n) (ha : a * 2 ^ n + b < 4294967296) : bOr .u32 ((a * 2 ^ n : Nat) : Int) (b : Int) = ((a * 2 ^ n + b : Nat) : Int) := by
  unfold bOr
  rw [BitVec.toNat_or, toNat_ofInt (by omega) (by show ((a * 2 ^ n : Nat) : Int) < 4294967296; omega), toNat_ofInt (by omega) (by show (b : Int) < 4294967296; omega), Int.toNat_natCast, Int.toNat_natCast, or_plus n h]
  exact wrap_u32 (by omega) (by omega)
end Go.Proofs.YtjkbjppopdfggaaDoor.Den
