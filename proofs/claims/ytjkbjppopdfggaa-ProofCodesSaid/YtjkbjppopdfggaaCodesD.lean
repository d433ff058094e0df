/-
  DECODE: what both decoders keep, step by step.
  Own work. No macro, syntax, notation, axiom.
-/
import Derived.Test.YtjkbjppopdfggaaCodesE2
namespace Go.Proofs.Ytjkbjppopdfggaa.Codes
open Go Den Fn Lib
open Go.RowKit (Below)
open Classical
set_option maxRecDepth 8000
set_option maxHeartbeats 1000000

def Pf.zero : Pf := ⟨[], false, 0, 0, 0⟩
abbrev zP : List Value := pfC none 0 0 Pf.zero
theorem zcPf : zc Try.prog 28 = zP := by kernel_rfl
theorem fT : slT Try.prog 22 51 33 40 = true := by kernel_rfl
/-- What is asked of a decoding. -/
def DecR (w : World) (o : Option Pf) (e : Ending) (w' : World) : Prop :=
  match o with
  | some p => ∃ a c, e = .returned (.tuple #[.agg (pfC a p.fs.length c p).toArray, .int .i64 0]) ∧ w'.ownsRow w.heap.size 51 33 (.slice a p.fs.length c) p.fs.length (rows fkC p.fs) ∧ Tch [] w w'
  | none => e = .returned (.tuple #[.agg zP.toArray, .int .i64 250]) ∧ Tch [] w w'
/-- What is left to do. -/
def decG (bs : List Int) (fs : List Fk) (k p : Nat) : Option Pf := (decF bs k p).bind fun x => decT bs (fs ++ x.1) x.2
theorem decG_zero (bs : List Int) (fs : List Fk) (p : Nat) : decG bs fs 0 p = decT bs fs p := by simp [decG, decF]
theorem decG_succ {bs : List Int} {fs : List Fk} {k p : Nat} (h : p + 33 ≤ bs.length ∧ bs.getD p 0 < 80) : decG bs fs (k + 1) p = decG bs (fs ++ [⟨bs.getD p 0, (bs.drop (p + 1)).take 32⟩]) k (p + 33) := by
  unfold decG
  rw [decF, if_pos h]
  cases decF bs k (p + 33) <;> simp
theorem decG_bad {bs : List Int} {fs : List Fk} {k p : Nat} (h : ¬ (p + 33 ≤ bs.length ∧ bs.getD p 0 < 80)) : decG bs fs (k + 1) p = none := by
  unfold decG
  rw [decF, if_neg h]
  rfl
/-- A decoder under way: the room for its answer, its proof, its reader, its forks. -/
structure DS (w : World) (ob pb b B0 : Nat) (ra : Option Addr) (rn rc : Nat) (bs : List Int) (u : World) (a : Option Addr) (n c : Nat) (fs : List Fk) (q : Pf) (pos : Nat) (e : Int) : Prop where
  tch : Tch [] w u
  out : Blk u ob zP
  prf : Blk u pb (pfC a n c q)
  rd : Rd u b ra rn rc bs pos e
  own : u.ownsRow B0 51 33 (.slice a n c) n (rows fkC fs)
  ok : ∀ f ∈ fs, f.ok
  lo : w.heap.size ≤ ob ∧ w.heap.size ≤ pb ∧ w.heap.size ≤ b ∧ ob < B0 ∧ pb < B0 ∧ b < B0 ∧ B0 ≤ u.heap.size
  ne : ob ≠ pb ∧ ob ≠ b ∧ pb ≠ b
  rlow : rn = 0 ∨ ∀ x, ra = some x → x.block < pb
variable {w u u' : World} {ob pb b B0 rn rc n c pos : Nat} {ra a : Option Addr} {bs : List Int} {fs : List Fk} {q : Pf} {e : Int}
theorem DS.count (h : DS w ob pb b B0 ra rn rc bs u a n c fs q pos e) : fs.length = n := by
  have h1 := h.own.1
  rw [rows_len (fkC_len h.ok)] at h1
  omega
theorem fk_ones {fs : List Fk} : ∀ u ∈ rows fkC fs, one u = true := fun u hu => by
  unfold rows at hu
  obtain ⟨l, hl, hu⟩ := List.mem_flatten.1 hu
  obtain ⟨f, _, rfl⟩ := List.mem_map.1 hl
  exact fkC_ones u hu
theorem own_not {u : World} {B e size n c : Nat} {a : Option Addr} {xs : List Value} (h : u.ownsRow B e size (.slice a n c) n xs) {s : List Nat} (hs : ∀ k ∈ s, k < B) : ∀ k, (Value.slice a n c).ownBlock = some k → k ∉ s := fun k hk hm => by
  have := (own_lt h hk).1
  have := hs k hm
  omega
theorem DS.step (h : DS w ob pb b B0 ra rn rc bs u a n c fs q pos e) {s : List Nat} (ht : Tch s u u') (hs : ∀ k ∈ s, u.heap.size ≤ k) : DS w ob pb b B0 ra rn rc bs u' a n c fs q pos e := by
  obtain ⟨l1, l2, l3, l4, l5, l6, l7⟩ := h.lo
  have hq : Tch [] u u' := ht.weaken fun i hi => .inr (hs i hi)
  exact ⟨h.tch.trans hq (by simp), h.out.tch hq (by simp), h.prf.tch hq (by simp), h.rd.quiet hq, own_up h.own hq (own_not h.own (by simp)), h.ok, ⟨l1, l2, l3, l4, l5, l6, by have := hq.size; omega⟩, h.ne, h.rlow⟩
theorem DS.other (h : DS w ob pb b B0 ra rn rc bs u a n c fs q pos e) {j : Nat} (ht : Tch [j] u u') (hj : B0 ≤ j) (hr : j ∉ rowL a) : DS w ob pb b B0 ra rn rc bs u' a n c fs q pos e := by
  obtain ⟨l1, l2, l3, l4, l5, l6, l7⟩ := h.lo
  refine ⟨h.tch.trans ht (by simp; omega), h.out.tch ht (by simp; omega), h.prf.tch ht (by simp; omega), h.rd.tch ht (by simp; omega) (h.rlow.imp id fun hl x hx hm => by have := hl x hx; simp at hm; omega), own_up h.own ht (fun k hk hm => hr ?_), h.ok, ⟨l1, l2, l3, l4, l5, l6, by have := ht.size; omega⟩, h.ne, h.rlow⟩
  obtain rfl := List.mem_singleton.1 hm
  cases a with
  | none => cases hk
  | some x =>
    simp only [Value.ownBlock, Option.some.injEq] at hk
    simp [rowL, hk]
theorem DS.setq (h : DS w ob pb b B0 ra rn rc bs u a n c fs q pos e) (ht : Tch [pb] u u') {q' : Pf} (hb : Blk u' pb (pfC a n c q')) : DS w ob pb b B0 ra rn rc bs u' a n c fs q' pos e := by
  obtain ⟨l1, l2, l3, l4, l5, l6, l7⟩ := h.lo
  obtain ⟨n1, n2, n3⟩ := h.ne
  exact ⟨h.tch.trans ht (by simp; omega), h.out.tch ht (by simpa using n1), hb, h.rd.tch ht (by simp; omega) (h.rlow.imp id fun hl x hx hm => by have := hl x hx; simp at hm; omega), own_up h.own ht (own_not h.own (by simp; omega)), h.ok, ⟨l1, l2, l3, l4, l5, l6, by have := ht.size; omega⟩, h.ne, h.rlow⟩
theorem put_part {w : World} {b n : Nat} {cs new : List Value} (h : Blk w b cs) (o : Nat) (ho : o + n ≤ cs.length) (hn : new.length = n) (h1 : ∀ u ∈ new, one u = true) {K : World → Prop}
    (hK : ∀ w', Blk w' b (splice cs o new) → Tch [b] w w' → w'.heap.size = w.heap.size → K w') :
    Array.size (List.toArray new) = n ∧ (∀ u ∈ Array.toList (List.toArray new), one u = true) ∧ Room w (Addr.add ⟨b, 0, none⟩ o) n ∧
      ∀ w' : World, w' = setCells w (Addr.add ⟨b, 0, none⟩ o) (Array.toList (List.toArray new)) 0 → K w' := by
  rw [add_mk, Nat.zero_add]
  refine ⟨by simpa using hn, by simpa using h1, h.room o n ho, ?_⟩
  rintro w' rfl
  exact hK _ (h.sets_at o (by show o + new.length ≤ _; omega)) (Tch.setCells (.inl (by simp)) (Tch.refl _ _)) size_setCells
theorem put_cell {w : World} {b : Nat} {cs : List Value} (h : Blk w b cs) (o : Nat) (ho : o < cs.length) {v : Value} (h1 : one v = true) {K : World → Prop}
    (hK : ∀ w', Blk w' b (cs.set o v) → Tch [b] w w' → K w') :
    one v = true ∧ Option.isSome (World.cell? w (Addr.add ⟨b, 0, none⟩ o)) = true ∧ World.frozen? w (Addr.add ⟨b, 0, none⟩ o) = false ∧ ∀ w' : World, w' = World.setCell w (Addr.add ⟨b, 0, none⟩ o) v → K w' := by
  rw [add_mk, Nat.zero_add]
  refine ⟨h1, by rw [h.cell]; simp [ho], h.frozen _, ?_⟩
  rintro w' rfl
  exact hK _ (h.set o v) ((Tch.refl [b] w).setCell (.inl (by simp)) _)
theorem DS.quiet (h : DS w ob pb b B0 ra rn rc bs u a n c fs q pos e) (ht : Tch [] u u') : DS w ob pb b B0 ra rn rc bs u' a n c fs q pos e := h.step ht (by simp)
theorem DS.read (h : DS w ob pb b B0 ra rn rc bs u a n c fs q pos e) {st : Nat × Int} (hr : RdR u u' b ra rn rc bs st) : DS w ob pb b B0 ra rn rc bs u' a n c fs q st.1 st.2 := by
  obtain ⟨l1, l2, l3, l4, l5, l6, l7⟩ := h.lo
  obtain ⟨n1, n2, n3⟩ := h.ne
  obtain ⟨hr, ht⟩ := hr
  exact ⟨h.tch.trans ht (by simp; omega), h.out.tch ht (by simpa using n2), h.prf.tch ht (by simpa using n3), hr, own_up h.own ht (own_not h.own (by simp; omega)), h.ok, ⟨l1, l2, l3, l4, l5, l6, by have := ht.size; omega⟩, h.ne, h.rlow⟩
/-- One more fork. -/
theorem DS.grown (h : DS w ob pb b B0 ra rn rc bs u a n c fs q pos e) {f : Fk} (hf : f.ok) {a' : Option Addr} {c' : Nat} (hown : u'.ownsRow B0 51 33 (.slice a' (n + 1) c') (n + 1) (rows fkC fs ++ fkC f)) (ht : Tch (rowL a) u u') :
    DS w ob pb b B0 ra rn rc bs (u'.setCell ⟨pb, 0, none⟩ (.slice a' (n + 1) c')) a' (n + 1) c' (fs ++ [f]) q pos e := by
  obtain ⟨l1, l2, l3, l4, l5, l6, l7⟩ := h.lo
  obtain ⟨n1, n2, n3⟩ := h.ne
  have hrl := rowL_ge h.own
  have hno : ∀ k, k < B0 → k ∉ rowL a := fun k hk hm => by have := (hrl k hm).1; omega
  have ht2 : Tch [pb] u' (u'.setCell ⟨pb, 0, none⟩ (.slice a' (n + 1) c')) := (Tch.refl [pb] u').setCell (.inl (by simp)) _
  have hs := ht.size
  have hs2 := ht2.size
  have r1 : Rd u' b ra rn rc bs pos e := h.rd.tch ht (hno b l6) (h.rlow.imp id fun hl x hx => hno _ (by have := hl x hx; omega))
  refine ⟨(h.tch.trans ht fun i hi => .inr (by have := (hrl i hi).1; omega)).trans ht2 (by simp; omega), (h.out.tch ht (hno _ l4)).tch ht2 (by simpa using n1), (h.prf.tch ht (hno _ l5)).set 0 _, ?_, ?_, ?_, ⟨l1, l2, l3, l4, l5, l6, by omega⟩, h.ne, h.rlow⟩
  · refine r1.tch ht2 (by simp; omega) ?_
    exact h.rlow.imp id fun hl x hx hm => by have := hl x hx; simp at hm; omega
  · rw [rows_append, rows_one]
    exact own_up hown ht2 (own_not hown (by simp; omega))
  · intro g hg
    rcases List.mem_append.1 hg with hg | hg
    · exact h.ok g hg
    · rw [List.mem_singleton.1 hg]; exact hf
theorem ret_zero {u : World} {ob : Nat} {old : List Value} (h : Blk u ob old) (hl : old.length = 5) {K : List Value → World → Prop} (hK : ∀ u', Tch [ob] u u' → K zP u') :
    ∃ cs, fillL (.fields [(0, 1), (1, 1), (2, 3)]) (zc Try.prog 28) [] = some cs ∧
      Array.size (List.toArray cs) = 5 ∧ (∀ v ∈ Array.toList (List.toArray cs), one v = true) ∧ Room u ⟨ob, 0, none⟩ 5 ∧
      ∀ w74 : World, w74 = setCells u ⟨ob, 0, none⟩ (Array.toList (List.toArray cs)) 0 →
      ∃ cs75 : List Value, List.length cs75 = 5 ∧ Cells w74 ⟨ob, 0, none⟩ cs75 ∧ K cs75 w74 := by
  refine ⟨zP, by rw [zcPf]; rfl, ?_⟩
  refine put_all h hl rfl (by simp [one]) fun w' h1 h2 _ => ?_
  exact get_all h1 rfl (hK w' h2)
theorem DS.fail (h : DS w ob pb b B0 ra rn rc bs u a n c fs q pos e) {o : Option Pf} (ho : o = none) {u' : World} (ht : Tch [ob] u u') : DecR w o (.returned (.tuple #[.agg zP.toArray, .int .i64 250])) u' := by
  subst ho
  exact ⟨rfl, h.tch.trans ht (by simp; have := h.lo.1; omega)⟩
theorem DS.done (h : DS w ob pb b B0 ra rn rc bs u a n c fs q pos e) {o : Option Pf} (ho : o = some { q with fs := fs }) {u' : World} (ht : Tch [ob] u u') : DecR w o (.returned (.tuple #[.agg (pfC a n c q).toArray, .int .i64 0])) u' := by
  subst ho
  obtain rfl := h.count
  obtain ⟨l1, l2, l3, l4, l5, l6, l7⟩ := h.lo
  refine ⟨a, c, rfl, own_base (own_up h.own ht (own_not h.own (by simp; omega))) (by omega), h.tch.trans ht (by simp; omega)⟩
/-- A byte and thirty-two behind it. -/
theorem fork_read (bs : List Int) (p : Nat) (e : Int) : (e = 0 ∧ p + 33 ≤ bs.length ∧ rByte bs p e = (bs.getD p 0, p + 1, 0) ∧ rRaw bs 32 (p + 1) 0 = ((bs.drop (p + 1)).take 32, p + 33, 0)) ∨
    (¬ (e = 0 ∧ p + 33 ≤ bs.length) ∧ (rRaw bs 32 (rByte bs p e).2.1 (rByte bs p e).2.2).1 = [] ∧ (rRaw bs 32 (rByte bs p e).2.1 (rByte bs p e).2.2).2.2 ≠ 0) := by
  rcases rByte_cases bs p e with ⟨h1, h2, h3⟩ | ⟨h1, h2, h3, h4, h5⟩
  · rw [h3]
    rcases rRaw_cases bs 32 (p + 1) 0 with ⟨g1, g2, g3⟩ | ⟨g1, g2, g3, g4, g5⟩
    · exact .inl ⟨h1, by omega, rfl, by simpa using g3⟩
    · exact .inr ⟨fun hh => g1 ⟨rfl, by omega⟩, g2, g4⟩
  · rcases rRaw_cases bs 32 (rByte bs p e).2.1 (rByte bs p e).2.2 with ⟨g1, g2, g3⟩ | ⟨g1, g2, g3, g4, g5⟩
    · exact absurd g1 h4
    · exact .inr ⟨fun hh => h1 ⟨hh.1, by omega⟩, g2, g4⟩
end Go.Proofs.Ytjkbjppopdfggaa.Codes
