/-
  WORDS FOR CONTRACTS: make, type assertions, what a call ends with.
  Own work. No macro, syntax, notation, axiom.
-/
import Derived.Test.YtjkbjppopdfggaaDoorDenWords9
import Derived.Laws.MakeOwn
namespace Go.Proofs.YtjkbjppopdfggaaDoor.Den
open Go
open Go.RowKit (Below)

/-- A block whose elements' type is known. -/
def BlkT (w : World) (b : Nat) (T : TypeId) (cs : List Value) : Prop := w.heap[b]? = some (.cells cs.toArray T (0, 0))
theorem BlkT.blk {w : World} {b : Nat} {T : TypeId} {cs : List Value} (h : BlkT w b T cs) : Blk w b cs := ⟨T, h⟩
theorem BlkT.new (w : World) (c : Array Value) (T : TypeId) : BlkT (w.alloc (.cells c T)) w.heap.size T c.toList := by show (w.heap.push _)[w.heap.size]? = _; simp
theorem BlkT.own {w : World} {b : Nat} {e : TypeId} {cs : List Value} (h : BlkT w b e cs) {base size n : Nat} (hb : base ≤ b) (hn : cs.length = n * size) (hm : n ≤ 9223372036854775807) : w.ownsRow base e size (.slice (some ⟨b, 0, none⟩) n n) n cs :=
  ⟨hn, .inr ⟨b, n, cs.toArray, rfl, hb, h, Nat.le_refl _, by unfold maxLen; exact hm, by simpa using hn, by rw [List.toList_toArray]; exact List.take_of_length_le (Nat.le_of_eq hn)⟩⟩
/-- A copy into a block. -/
theorem cpyT {P : Program} {dT sT ty e bytes : TypeId} (hT : slT P dT e 1 bytes = true) {w : World} {g o dn dc : Nat} {T : TypeId} {cur : List Value} (hg : BlkT w g T cur) {b : Option Addr} {sn sc : Nat} {ys : List Value}
    (hy : RSl w 1 b sn sc ys) (hfit : o + min sn dn ≤ cur.length) {K : Int → World → Prop}
    (hK : ∀ w', BlkT w' g T (splice cur o (ys.take (min sn dn))) → Tch [g] w w' → w'.heap.size = w.heap.size → K ((min sn dn : Nat) : Int) w') :
    RunV P (Builtin.copy_ #[dT, sT] ty #[.slice (some ⟨g, o, none⟩) dn dc, .slice b sn sc]) w fun v w' => ∃ x : Int, v = (.int .i64 x) ∧ K x w' := by
  obtain ⟨h1, h2, i, z, h3, h4, h5, h6, h7⟩ := slT_spec hT
  have hlen : (ys.take (min sn dn)).length = min sn dn := by have := hy.len; rw [List.length_take]; omega
  have hsr : ∀ cs : Array Value, Tch [g] w (w.setRow g cs) ∧ (w.setRow g cs).heap.size = w.heap.size := fun cs =>
    ⟨⟨rfl, rfl, rfl, by simp [World.setRow], fun k _ hn => by
      have : g ≠ k := fun e => hn (by simp [e])
      simp [World.setRow, Array.getElem?_modify, this]⟩, by simp [World.setRow]⟩
  obtain ⟨rfl, hc⟩ | ⟨ad, rfl, hcells⟩ := hy.from
  · have hn : sn = 0 := by have := hy.cap; omega
    subst hn; subst hc
    refine ⟨_, _, run_copy_nil P w dT sT ty e ⟨g, o, none⟩ dn dc h1 (by rw [h3]; rfl), _, rfl, ?_⟩
    rw [Nat.zero_min] at hK
    exact hK w (by simpa [splice] using hg) (Tch.refl _ _) rfl
  · refine ⟨_, _, run_copy_row P w dT sT ty e g o dn dc ad sn sc cur.toArray T (ys.take (min sn dn)) h1 (by rw [h3]; simp [h5]) hg hlen (fun j v hv => hcells j v (by rw [List.getElem?_take] at hv; split at hv; exact hv; cases hv)) (by rw [hlen]; simpa using hfit) (fun v hv => by rw [← one_eq]; exact hy.ones v (List.mem_of_mem_take hv)), _, rfl, ?_⟩
    rw [hlen]
    refine hK _ ?_ (hsr _).1 (hsr _).2
    unfold BlkT
    rw [setRow_heap w g cur.toArray _ T (0, 0) hg]
    simp [splice, hlen]
theorem mk_at {P : Program} {t e : TypeId} {size bytes : Nat} (hT : slT P t e size bytes = true) {w : World} {n : Nat} (hlen : n ≤ 9223372036854775807) (hbytes : bytes * n ≤ 281474976710656) {K : Option Addr → Nat → Nat → World → Prop}
    (hK : ∀ w' (cs : List Value), cs.length = n * size → (∀ z, zc P e = z → z.length = size → ∀ j, j < n * size → cs[j]? = z[j % size]?) → BlkT w' w.heap.size e cs → Tch [] w w' → w'.heap.size = w.heap.size + 1 → K (some ⟨w.heap.size, 0, none⟩) n n w') :
    RunV P (Instr.makeSlice t (.int .i64 (n : Int)) (.int .i64 (n : Int))) w fun v w' => ∃ (x : Option Addr) (xn : Nat) (xc : Nat), v = (.slice x xn xc) ∧ K x xn xc w' := by
  obtain ⟨h1, h2, i, z, h3, h4, h5, h6, h7⟩ := slT_spec hT
  have hb' : (i.bytes : Int) * (n : Int) ≤ 281474976710656 := by
    rw [h6]
    have h : ((bytes * n : Nat) : Int) ≤ 281474976710656 := by omega
    rwa [Int.natCast_mul] at h
  have hr := run_make (P := P) w t e i z h1 h3 h4 .i64 .i64 n n (by omega) (Int.le_refl _) hb' (by omega)
  simp only [Int.toNat_natCast] at hr
  refine ⟨_, _, hr, _, _, _, rfl, ?_⟩
  refine hK _ (madeCells z.cells (n * i.size)).toList (by rw [Array.length_toList, size_madeCells, h5]) ?_ (BlkT.new _ _ _) ((Tch.refl [] w).alloc _) (size_alloc _ _)
  intro z' hz' hzl j hj
  have e1 : zc P e = z.cells.toList := by
    unfold zc
    rw [h3]
    simp [h4]
  rw [e1] at hz'
  subst hz'
  have hsz : z.cells.size = size := h7
  have hm : j % size < size := Nat.mod_lt _ h2
  rw [h5]
  simp only [madeCells, Array.toList_map, Array.toList_range, List.getElem?_map]
  rw [List.getElem?_range (by omega)]
  simp only [Option.map_some, hsz]
  rw [Array.getElem?_toList, Array.getElem?_eq_getElem (by omega)]
  congr 1
  rw [getElem!_pos z.cells (j % size) (by omega)]
theorem asrt_ok {P : Program} {xT t : TypeId} {v : Value} {w : World} {K : Value → World → Prop} {d : TypeDesc} (hu : P.underlying t = some d) (hd : ∀ ms, d ≠ .interface ms) (hK : K (.tuple #[v, .bool true]) w) :
    RunV P (Instr.typeAssert (.iface t v) xT t true) w K := by
  refine ⟨_, w, ?_, hK⟩
  cases d <;> first | exact absurd rfl (hd _) | simp [Instr.typeAssert, run_underlying hu]
theorem asrt_no {P : Program} {xT t u : TypeId} {v z : Value} {w : World} {K : Value → World → Prop} {d : TypeDesc} (hu : P.underlying t = some d) (hd : ∀ ms, d ≠ .interface ms) (hz : (P.info? t).map (·.zero) = some (some z)) (hne : u ≠ t) (hK : K (.tuple #[z, .bool false]) w) :
    RunV P (Instr.typeAssert (.iface u v) xT t true) w K := by
  refine ⟨_, w, ?_, hK⟩
  obtain ⟨j, hj, hz'⟩ := Option.map_eq_some_iff.1 hz
  cases d <;> first | exact absurd rfl (hd _) | simp [Instr.typeAssert, run_underlying hu, hne, zeroValue, hj, hz', typeInfo]
theorem asrt_nil {P : Program} {xT t : TypeId} {z : Value} {w : World} {K : Value → World → Prop} {d : TypeDesc} (hu : P.underlying t = some d) (hd : ∀ ms, d ≠ .interface ms) (hz : (P.info? t).map (·.zero) = some (some z)) (hK : K (.tuple #[z, .bool false]) w) :
    RunV P (Instr.typeAssert .nilIface xT t true) w K := by
  refine ⟨_, w, ?_, hK⟩
  obtain ⟨j, hj, hz'⟩ := Option.map_eq_some_iff.1 hz
  cases d <;> first | exact absurd rfl (hd _) | simp [Instr.typeAssert, run_underlying hu, zeroValue, hj, hz', typeInfo]
end Go.Proofs.YtjkbjppopdfggaaDoor.Den
