/-
  KEYS, ROWS AND NODES, as cells and as the texts whose digests they have.
  Own work. No macro, syntax, notation, axiom.
-/
import Derived.Test.YtjkbjppopdfggaaDoorShaW7
import Derived.Test.YtjkbjppopdfggaaDoorDenWords6
import Derived.Test.YtjkbjppopdfggaaDoorFnN
namespace Go.Proofs.YtjkbjppopdfggaaDoor.Sha
open Go Den Fn
open Go.RowKit (Below)
set_option maxRecDepth 8000

def I64 (n : Int) : Prop := -9223372036854775808 ≤ n ∧ n ≤ 9223372036854775807
theorem i64_wf {n : Int} : (Lit.int .i64 n).wf = true ↔ I64 n := by
  simp [Lit.wf, IntKind.min, IntKind.max, IntKind.signed, IntKind.bits, I64]
theorem u8_wf {n : Int} : (Lit.int .u8 n).wf = true ↔ 0 ≤ n ∧ n < 256 := by
  simp [Lit.wf, IntKind.min, IntKind.max, IntKind.signed, IntKind.bits]
  omega
def KeyOk (t : Int) : Prop := 0 ≤ t ∧ t ≤ 65535
instance (t : Int) : Decidable (KeyOk t) := by unfold KeyOk; infer_instance
abbrev keyC (t r : Int) : List Value := [.int .i64 t, .int .i64 r]
abbrev rowC (t r v : Int) : List Value := [.int .i64 t, .int .i64 r, .int .i64 v]
def rowU (r : Int) : Int := bXor .u64 (IntKind.wrap .u64 r) 9223372036854775808
/-- The eight bytes of a number, the high ones first. -/
def be8 (u : Int) : List Int := (List.range 8).map fun i : Nat => IntKind.wrap .u8 (shR .u64 u (56 - 8 * (i : Int)))
def keyB (t r : Int) : List Int := [IntKind.wrap .u8 (shR .i64 t 8), IntKind.wrap .u8 t] ++ be8 (rowU r)
def leafT (t r v : Int) : List Int := [0] ++ keyB t r ++ be8 (IntKind.wrap .u64 v)
def forkT (n : Int) (l r : List Int) : List Int := [1, IntKind.wrap .u8 n] ++ l ++ r
theorem be8_length (u : Int) : (be8 u).length = 8 := by simp [be8]
theorem keyB_length (t r : Int) : (keyB t r).length = 10 := by simp [keyB, be8_length]
theorem leafT_length (t r v : Int) : (leafT t r v).length = 19 := by simp [leafT, keyB_length, be8_length]
theorem be8_bytes (u : Int) : Bytes (be8 u) := by
  intro x hx
  simp only [be8, List.mem_map] at hx
  obtain ⟨i, _, rfl⟩ := hx
  exact wrap_u8_byte _
theorem Bytes.append {a b : List Int} (h : Bytes a) (k : Bytes b) : Bytes (a ++ b) := fun x hx => (List.mem_append.1 hx).elim (h x) (k x)
theorem keyB_bytes (t r : Int) : Bytes (keyB t r) := by
  refine Bytes.append (fun x hx => ?_) (be8_bytes _)
  simp at hx
  rcases hx with rfl | rfl <;> exact wrap_u8_byte _
theorem leafT_bytes (t r v : Int) : Bytes (leafT t r v) := by
  refine Bytes.append (Bytes.append (fun x hx => ?_) (keyB_bytes t r)) (be8_bytes _)
  simp at hx; omega
theorem forkT_bytes {n : Int} {l r : List Int} (hl : Bytes l) (hr : Bytes r) : Bytes (forkT n l r) := by
  refine Bytes.append (Bytes.append (fun x hx => ?_) hl) hr
  simp at hx
  rcases hx with rfl | rfl
  · omega
  · exact wrap_u8_byte _
theorem be8_take {u : Int} {i : Nat} (h : i < 8) : (be8 u).take (i + 1) = (be8 u).take i ++ [IntKind.wrap .u8 (shR .u64 u (56 - 8 * (i : Int)))] := by
  rw [List.take_succ_eq_append_getElem (by rw [be8_length]; exact h)]
  simp [be8]
theorem rowU_range (r : Int) : 0 ≤ rowU r ∧ rowU r < 18446744073709551616 := by
  unfold rowU bXor
  rw [wrap_u64_eq]
  omega

/-- A node. -/
structure Nd where
  kind : Int
  bit : Int
  left : List Int
  right : List Int
  tab : Int
  row : Int
  val : Int
def Nd.cells (n : Nd) : List Value := [.int .i64 n.kind, .int .i64 n.bit] ++ u8 n.left ++ u8 n.right ++ rowC n.tab n.row n.val
structure Nd.ok (n : Nd) : Prop where
  ll : n.left.length = 32
  rl : n.right.length = 32
  lb : Bytes n.left
  rb : Bytes n.right
  ki : I64 n.kind
  bi : I64 n.bit
  ti : I64 n.tab
  ri : I64 n.row
  vi : I64 n.val
def z32 : List Int := List.replicate 32 0
def Nd.zero : Nd := ⟨0, 0, z32, z32, 0, 0, 0⟩
theorem z32_bytes : Bytes z32 := by
  intro x hx
  rw [z32, List.mem_replicate] at hx
  omega
theorem Nd.zero_ok : Nd.zero.ok := ⟨rfl, rfl, z32_bytes, z32_bytes, by unfold I64; decide, by unfold I64; decide, by unfold I64; decide, by unfold I64; decide, by unfold I64; decide⟩
/-- The digest of a node, and the error. -/
def ofS (n : Nd) : List Int × Int :=
  if n.kind = 0 ∧ n.bit = 0 ∧ n.left = z32 ∧ n.right = z32 ∧ n.tab = 0 ∧ n.row = 0 ∧ n.val = 0 then (z32, 0)
  else if n.kind = 1 ∧ n.bit = 0 ∧ n.left = z32 ∧ n.right = z32 ∧ KeyOk n.tab then (sha (leafT n.tab n.row n.val), 0)
  else if n.kind = 2 ∧ (n.tab = 0 ∧ n.row = 0 ∧ n.val = 0) ∧ 0 ≤ n.bit ∧ n.bit < 80 then (sha (forkT n.bit n.left n.right), 0)
  else (z32, 252)
theorem ofS_length (n : Nd) : (ofS n).1.length = 32 := by
  unfold ofS
  split
  · rfl
  · split
    · exact sha_length _
    · split
      · exact sha_length _
      · rfl
theorem ofS_bytes (n : Nd) : Bytes (ofS n).1 := by
  unfold ofS
  split
  · exact z32_bytes
  · split
    · exact sha_bytes _
    · split
      · exact sha_bytes _
      · exact z32_bytes
theorem Nd.cells_length {n : Nd} (h : n.ok) : n.cells.length = 69 := by simp [Nd.cells, h.ll, h.rl]
def ksNd : List FK := [.int .i64, .int .i64] ++ List.replicate 32 (.int .u8) ++ List.replicate 32 (.int .u8) ++ [.int .i64, .int .i64, .int .i64]
theorem Nd.fits {n : Nd} (h : n.ok) : Fits ksNd n.cells := by
  refine Fits.append (Fits.append (Fits.append ⟨⟨rfl, i64_wf.2 h.ki⟩, ⟨rfl, i64_wf.2 h.bi⟩, trivial⟩ ?_) ?_) ⟨⟨rfl, i64_wf.2 h.ti⟩, ⟨rfl, i64_wf.2 h.ri⟩, ⟨rfl, i64_wf.2 h.vi⟩, trivial⟩
  · rw [← h.ll]; exact Fits.ints fun x hx => u8_wf.2 (h.lb x hx)
  · rw [← h.rl]; exact Fits.ints fun x hx => u8_wf.2 (h.rb x hx)
theorem Nd.of_fits {cs : List Value} (h : Fits ksNd cs) : ∃ n : Nd, cs = n.cells ∧ n.ok := by
  obtain ⟨a, d, rfl, ha, hd⟩ := h.split
  obtain ⟨a, c, rfl, ha, hc⟩ := ha.split
  obtain ⟨a, b, rfl, ha, hb⟩ := ha.split
  obtain ⟨k, r, rfl, hk, ha⟩ := ha.int1
  obtain ⟨b1, r, rfl, hb1, ha⟩ := ha.int1
  obtain rfl := ha.nil
  obtain ⟨l, rfl, hl, hlb⟩ := hb.of_ints
  obtain ⟨r, rfl, hr, hrb⟩ := hc.of_ints
  obtain ⟨t, s, rfl, ht, hd⟩ := hd.int1
  obtain ⟨ro, s, rfl, hro, hd⟩ := hd.int1
  obtain ⟨v, s, rfl, hv, hd⟩ := hd.int1
  obtain rfl := hd.nil
  exact ⟨⟨k, b1, l, r, t, ro, v⟩, rfl, hl, hr, fun x hx => u8_wf.1 (hlb x hx), fun x hx => u8_wf.1 (hrb x hx), i64_wf.1 hk, i64_wf.1 hb1, i64_wf.1 ht, i64_wf.1 hro, i64_wf.1 hv⟩
theorem u8_inj {a b : List Int} (h : u8 a = u8 b) : a = b := by
  have : ∀ a b : List Int, u8 a = u8 b → a = b := by
    intro a
    induction a with
    | nil => intro b h; cases b with
      | nil => rfl
      | cons _ _ => cases h
    | cons x r ih => intro b h; cases b with
      | nil => cases h
      | cons y s =>
        simp only [List.map_cons, List.cons.injEq, Value.int.injEq, true_and] at h
        rw [h.1, ih s h.2]
  exact this a b h
theorem Nd.cells_inj {n m : Nd} (hn : n.ok) (hm : m.ok) (h : n.cells = m.cells) : n = m := by
  unfold Nd.cells at h
  obtain ⟨h, h4⟩ := List.append_inj h (by simp [hn.ll, hm.ll, hn.rl, hm.rl])
  obtain ⟨h, h3⟩ := List.append_inj h (by simp [hn.ll, hm.ll])
  obtain ⟨h1, h2⟩ := List.append_inj h rfl
  cases n; cases m
  simp only [List.cons.injEq, Value.int.injEq, true_and, and_true] at h1 h4
  simp only at h2 h3
  rw [h1.1, h1.2, u8_inj h2, u8_inj h3, h4.1, h4.2.1, h4.2.2]
theorem nd_flat : flatK Tryd.prog 6 33 = some ksNd := by kernel_rfl
theorem nd_eqT : eqT Tryd.prog 6 33 = true := by kernel_rfl
theorem row_flat : flatK Tryd.prog 6 31 = some [.int .i64, .int .i64, .int .i64] := by kernel_rfl
theorem row_eqT : eqT Tryd.prog 6 31 = true := by kernel_rfl
theorem dig_flat : flatK Tryd.prog 6 24 = some (List.replicate 32 (.int .u8)) := by kernel_rfl
theorem dig_eqT : eqT Tryd.prog 6 24 = true := by kernel_rfl
theorem dig_fits {l : List Int} (h : l.length = 32) (hb : Bytes l) : Fits (List.replicate 32 (.int .u8)) (u8 l) := by
  rw [← h]; exact Fits.ints fun x hx => u8_wf.2 (hb x hx)
theorem row_fits {t r v : Int} (ht : I64 t) (hr : I64 r) (hv : I64 v) : Fits [.int .i64, .int .i64, .int .i64] (rowC t r v) :=
  ⟨⟨rfl, i64_wf.2 ht⟩, ⟨rfl, i64_wf.2 hr⟩, ⟨rfl, i64_wf.2 hv⟩, trivial⟩
theorem zcNd : zc Tryd.prog 33 = Nd.zero.cells := by kernel_rfl
theorem zcRow : zc Tryd.prog 31 = rowC 0 0 0 := by kernel_rfl
theorem zc140 : zc Tryd.prog 140 = u8 (List.replicate 10 0) := by kernel_rfl
theorem zcDig : zc Tryd.prog 24 = u8 z32 := by kernel_rfl
theorem bT : slT Tryd.prog 22 5 1 1 = true := by kernel_rfl
end Go.Proofs.YtjkbjppopdfggaaDoor.Sha
