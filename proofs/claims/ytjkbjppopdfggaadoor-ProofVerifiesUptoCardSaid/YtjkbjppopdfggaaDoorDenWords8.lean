/-
  WORDS FOR CONTRACTS: what is known of a world, as one list of facts with the blocks that they hang on ('St'): it goes through each step as a whole.
  Own work. No macro, syntax, notation, axiom.
-/
import Derived.Test.YtjkbjppopdfggaaDoorDenWords7
namespace Go.Proofs.YtjkbjppopdfggaaDoor.Den
open Go
open Go.RowKit (Below)

/-- A fact about a world, and the blocks that it hangs on. -/
structure Fact where
  holds : World → Prop
  foot : Nat → Prop
  keep : ∀ {w w' : World}, holds w → (∀ k, foot k → k < w.heap.size → w'.heap[k]? = w.heap[k]?) → holds w'
def blkOf (a : Option Addr) (k : Nat) : Prop := ∃ x, a = some x ∧ x.block = k
theorem RSl.keep {w w' : World} {sz n c : Nat} {a : Option Addr} {cs : List Value} (h : RSl w sz a n c cs) (hk : ∀ k, blkOf a k → k < w.heap.size → w'.heap[k]? = w.heap[k]?) : RSl w' sz a n c cs := by
  refine ⟨h.cap, h.len, h.ones, ?_⟩
  rcases h.at' with h' | ⟨b, o, h1, h2⟩
  · exact .inl h'
  · refine .inr ⟨b, o, h1, fun i v hv => ?_⟩
    have := h2 i v hv
    rw [add_mk] at this ⊢
    rw [World.cell?_of_block (w := w) (hk b ⟨_, h1, rfl⟩ (World.block_lt_of_cell? _ _ this))]
    exact this
theorem own_keep' {w w' : World} {base e size : Nat} {a : Option Addr} {m n c : Nat} {xs : List Value} (h : w.ownsRow base e size (.slice a m c) n xs) (hk : ∀ k, blkOf a k → k < w.heap.size → w'.heap[k]? = w.heap[k]?) : w'.ownsRow base e size (.slice a m c) n xs := by
  refine own_keep h fun k hb => ?_
  cases a with
  | none => cases hb
  | some x =>
    simp only [Value.ownBlock, Option.some.injEq] at hb
    exact hk k ⟨x, rfl, hb⟩ (own_lt h (by simp only [Value.ownBlock, Option.some.injEq]; exact hb)).2
def fBlk (b : Nat) (cs : List Value) : Fact := ⟨fun w => Blk w b cs, fun k => k = b, fun h hk => h.of_heap (hk b rfl h.lt)⟩
def fRsl (sz : Nat) (a : Option Addr) (n c : Nat) (cs : List Value) : Fact := ⟨fun w => RSl w sz a n c cs, blkOf a, fun h hk => h.keep hk⟩
def fOwn (base e size : Nat) (a : Option Addr) (n c : Nat) (xs : List Value) : Fact := ⟨fun w => w.ownsRow base e size (.slice a n c) n xs, blkOf a, fun h hk => own_keep' h hk⟩
/-- The fact does not hang on these blocks. -/
def Fact.off (f : Fact) (s : List Nat) : Prop := ∀ k ∈ s, ¬ f.foot k
/-- It hangs on blocks below b alone. -/
def Fact.under (f : Fact) (b : Nat) : Prop := ∀ k, f.foot k → k < b
/-- Since 'w0' at most the blocks 's' (and new ones) have turned; and these facts hold. -/
structure St (w0 : World) (s : List Nat) (w : World) (L : List Fact) : Prop where
  tch : Tch s w0 w
  all : ∀ f ∈ L, f.holds w
variable {w0 w w' : World} {s t : List Nat} {L : List Fact}
theorem St.refl (w : World) (s : List Nat) : St w s w [] := ⟨Tch.refl s w, fun f hf => by cases hf⟩
theorem St.add (h : St w0 s w L) (f : Fact) (hf : f.holds w) : St w0 s w (f :: L) := ⟨h.tch, fun g hg => by
  rcases List.mem_cons.1 hg with rfl | hg
  · exact hf
  · exact h.all g hg⟩
theorem St.sub (h : St w0 s w L) {M : List Fact} (hM : ∀ f ∈ M, f ∈ L) : St w0 s w M := ⟨h.tch, fun f hf => h.all f (hM f hf)⟩
theorem St.tail (h : St w0 s w L) {f : Fact} {M : List Fact} (e : L = f :: M) : St w0 s w M := h.sub fun g hg => by rw [e]; exact List.mem_cons_of_mem _ hg
theorem St.step (h : St w0 s w L) (ht : Tch t w w') (hf : ∀ f ∈ L, f.off t) (hs : ∀ i ∈ t, i ∈ s ∨ w0.heap.size ≤ i) : St w0 s w' L :=
  ⟨h.tch.trans ht hs, fun f hm => f.keep (h.all f hm) fun k hk hlt => ht.block k hlt fun hkt => hf f hm k hkt hk⟩
theorem St.quiet (h : St w0 s w L) (ht : Tch [] w w') : St w0 s w' L := h.step ht (fun _ _ _ hk => by cases hk) (fun _ hi => by cases hi)
theorem St.drew (h : St w0 s w L) : St w0 s w.drew L := h.quiet ((Tch.refl [] w).drew)
theorem St.alloc (h : St w0 s w L) (o : Obj) : St w0 s (w.alloc o) L := h.quiet ((Tch.refl [] w).alloc o)
/-- A new block. -/
theorem St.new (h : St w0 s w L) {cs : List Value} (ds : List Value) (T : TypeId) (e : cs = ds) : St w0 s (w.alloc (.cells cs.toArray T)) (fBlk w.heap.size ds :: L) :=
  (h.alloc _).add _ (Blk.fresh w T e)
theorem St.below (h : St w0 s w L) {B : Nat} (hb : Below B w w') (hf : ∀ f ∈ L, f.under B) (hB : w0.heap.size ≤ B) : St w0 s w' L :=
  ⟨h.tch.up hb hB, fun f hm => f.keep (h.all f hm) fun k hk _ => hb.block k (hf f hm k hk)⟩
theorem St.size (h : St w0 s w L) : w0.heap.size ≤ w.heap.size := h.tch.size
theorem St.get (h : St w0 s w L) {f : Fact} (hm : f ∈ L) : f.holds w := h.all f hm
theorem St.blk (h : St w0 s w L) {b : Nat} {cs : List Value} (hm : fBlk b cs ∈ L) : Blk w b cs := h.all _ hm
theorem St.rsl (h : St w0 s w L) {sz n c : Nat} {a : Option Addr} {cs : List Value} (hm : fRsl sz a n c cs ∈ L) : RSl w sz a n c cs := h.all _ hm
theorem St.own (h : St w0 s w L) {base e size n c : Nat} {a : Option Addr} {xs : List Value} (hm : fOwn base e size a n c xs ∈ L) : w.ownsRow base e size (.slice a n c) n xs := h.all _ hm
/-- A new reckoning, from here. -/
theorem St.here (h : St w0 s w L) (t : List Nat) : St w t w L := ⟨Tch.refl t w, h.all⟩
theorem fBlk_off {b : Nat} {cs : List Value} {s : List Nat} (h : b ∉ s) : (fBlk b cs).off s := fun k hk (e : k = b) => h (e ▸ hk)
theorem fRsl_off {sz n c : Nat} {a : Option Addr} {cs : List Value} {s : List Nat} (h : Off s a) : (fRsl sz a n c cs).off s := fun k hk ⟨x, hx, he⟩ => h x hx (he ▸ hk)
theorem fOwn_off {base e size n c : Nat} {a : Option Addr} {xs : List Value} {s : List Nat} (h : Off s a) : (fOwn base e size a n c xs).off s := fun k hk ⟨x, hx, he⟩ => h x hx (he ▸ hk)
end Go.Proofs.YtjkbjppopdfggaaDoor.Den
