/-
  The reference's Verify: formed, Path, Verify: contracts.
  Own work. No macro, syntax, notation, axiom.
-/
import Derived.Test.YtjkbjppopdfggaaDoorVerD
namespace Go.Proofs.YtjkbjppopdfggaaDoor.Sha
open Go Den Fn
open Go.RowKit (Below)
open Classical
set_option maxRecDepth 8000
set_option maxHeartbeats 4000000

/-- Is the form right for a key? -/
def formedP (t r : Int) (p : Pf) : Prop := if p.leaf = false then p.fs = [] ∧ (p.t = 0 ∧ p.r = 0 ∧ p.v = 0)
  else KeyOk p.t ∧ RiseF p.fs ∧ ∀ f ∈ p.fs, bitS (keyB t r) f.bit = bitS (keyB p.t p.r) f.bit
/-- The same, for the first ones. -/
def SameU (a b : List Int) (fs : List Fk) (n : Nat) : Prop := ∀ (i : Nat) (f : Fk), i < n → fs[i]? = some f → bitS a f.bit = bitS b f.bit
theorem SameU.succ {a b : List Int} {fs : List Fk} {n : Nat} (h : SameU a b fs n) {f : Fk} (hf : fs[n]? = some f) (h1 : bitS a f.bit = bitS b f.bit) : SameU a b fs (n + 1) := fun i x hi hx => by
  by_cases e : i = n
  · subst e
    rw [hf] at hx
    cases hx
    exact h1
  · exact h i x (by omega) hx
theorem formed_c (w : World) (t r : Int) (hk : KeyOk t) (p : Pf) (a : Option Addr) (n c : Nat) (hp : PfAt w a n c p) (hn : n ≤ 9223372036854775806) :
    Calls Tryd.prog 58 #[.agg (keyC t r).toArray, .agg (pfC a n c p).toArray] w fun e w' => e = .returned (.bool (decide (formedP t r p))) ∧ Tch [] w w' := by
  have hpl := hp.len
  have hlen := fkC_len hp.1.fs
  refine c58 _ _ ?_
  unfold d58
  rintro w2 rfl w3 rfl
  have hS := ((St.refl w []).new (keyC t r) 29 rfl).new (pfC a n c p) 43 rfl
  generalize w.alloc (.cells (keyC t r).toArray 29) = w2 at *
  generalize w2.alloc (.cells (pfC a n c p).toArray 43) = w3 at *
  generalize w.heap.size = kb at *
  generalize w2.heap.size = pb at *
  let L : List Fact := [fBlk pb (pfC a n c p), fBlk kb (keyC t r)]
  replace hS : St w [] w3 L := hS
  have kpb : ∀ {u : World}, St w [] u L → Blk u pb (pfC a n c p) := fun h => h.blk (by simp [L])
  have kkb : ∀ {u : World}, St w [] u L → Blk u kb (keyC t r) := fun h => h.blk (by simp [L])
  have done : ∀ {u : World} {q : Bool}, q = decide (formedP t r p) → St w [] u L → (Ending.returned (.bool q) = .returned (.bool (decide (formedP t r p))) ∧ Tch [] w u) := fun hq hS => ⟨by rw [hq], hS.tch⟩
  refine ⟨p.leaf, by rw [add_mk]; exact (kpb hS).cell 1, ?_⟩
  cases hleaf : p.leaf with
  | false =>
    rw [show (!false) = true from rfl, cond_true]
    have hiff : formedP t r p ↔ p.fs = [] ∧ (p.t = 0 ∧ p.r = 0 ∧ p.v = 0) := by
      unfold formedP
      rw [if_pos hleaf]
    refine ⟨a, n, c, by rw [add_mk]; exact (kpb hS).cell 0, ?_⟩
    by_cases hn0 : n = 0
    rotate_left
    · rw [bif_neg (by omega)]
      exact done (decide_eq_false fun h => hn0 (by rw [← hpl, (hiff.1 h).1]; rfl)).symm hS
    rw [bif_pos (by omega)]
    refine get_part (kpb hS) 2 3 (rowC p.t p.r p.v) rfl rfl ?_
    refine ⟨rowC 0 0 0, by rw [zcRow]; rfl, ?_⟩
    refine eq_flat row_flat row_eqT (row_fits hp.1.t hp.1.r hp.1.v) (row_fits i64_0 i64_0 i64_0) (fun h => ?_) (fun h => ?_)
    · exact done (decide_eq_true (hiff.2 ⟨List.length_eq_zero_iff.1 (by omega), rowC_eq.1 h⟩)).symm hS
    · exact done (decide_eq_false fun hh => h (rowC_eq.2 (hiff.1 hh).2)).symm hS
  | true =>
    rw [show (!true) = false from rfl, cond_false]
    have hiff : formedP t r p ↔ KeyOk p.t ∧ RiseF p.fs ∧ ∀ f ∈ p.fs, bitS (keyB t r) f.bit = bitS (keyB p.t p.r) f.bit := by
      unfold formedP
      rw [if_neg (by rw [hleaf]; simp)]
    refine get_at2 (kpb hS) 2 2 (keyC p.t p.r) rfl rfl (by rw [add_mk, add_mk]) ?_
    refine (refCheck_c p.t p.r w3).mono ?_
    rintro e w11 ⟨rfl, t1⟩
    replace hS := hS.quiet t1
    refine ⟨_, rfl, ?_⟩
    by_cases hko : KeyOk p.t
    rotate_left
    · rw [if_neg hko, bif_nneg (by omega)]
      exact done (decide_eq_false fun h => hko (hiff.1 h).1).symm hS
    rw [if_pos hko, bif_npos rfl]
    refine ⟨fun m x u => ∃ i : Nat, x = i ∧ i ≤ n ∧ m = n - i ∧ St w [] u L ∧ RiseU p.fs i ∧ SameU (keyB t r) (keyB p.t p.r) p.fs i, ⟨n, 0, rfl, by omega, rfl, hS, fun i f hi => by omega, fun i f hi => by omega⟩, ?_⟩
    clear hS
    rintro m w15 x ⟨i, rfl, hi, rfl, hS, hU, hV⟩
    refine ⟨a, n, c, by rw [add_mk]; exact (kpb hS).cell 0, ?_⟩
    by_cases hin : i < n
    rotate_left
    · rw [bif_neg (by omega)]
      have hi' : i = p.fs.length := by omega
      refine done (decide_eq_true (hiff.2 ⟨hko, by rw [hi'] at hU; exact hU, fun f hf => ?_⟩)).symm hS
      obtain ⟨j, hj⟩ := List.getElem?_of_mem hf
      exact hV j f (by rw [hi']; exact (List.getElem?_eq_some_iff.1 hj).1) hj
    rw [bif_pos (by omega)]
    have hfi : p.fs[i]? = some (p.fs[i]'(by omega)) := List.getElem?_eq_getElem (by omega)
    have hfm : p.fs[i]'(by omega) ∈ p.fs := List.getElem_mem _
    generalize p.fs[i]'(by omega) = f at hfi hfm
    refine ⟨a, n, c, by rw [add_mk]; exact (kpb hS).cell 0, by omega, by omega, ?_⟩
    rw [Int.toNat_natCast]
    obtain ⟨b', o', rfl, hc⟩ := (hp.quiet hS.tch).2.elem' hlen (by omega) hfi
    refine ⟨f.bit, by rw [add_mk]; exact hc 0 _ rfl, ?_⟩
    rintro w21 rfl
    replace hS := hS.drew
    generalize w15.drew = w21 at *
    have no : ∀ {Q : Prop}, (RiseF p.fs → Q) → ¬ Q → ¬ formedP t r p := fun h hq hh => hq (h (hiff.1 hh).2.1)
    by_cases c1 : f.bit < 0
    · rw [bif_pos c1]
      exact ⟨trivial, done (decide_eq_false (no (fun h => (h i f (by omega) hfi).1) (fun h => by have := h.1; omega))).symm hS⟩
    rw [bif_neg c1]
    by_cases c2 : 80 ≤ f.bit
    · rw [bif_pos c2]
      exact ⟨trivial, done (decide_eq_false (no (fun h => (h i f (by omega) hfi).1) (fun h => by have := h.2; omega))).symm hS⟩
    rw [bif_neg c2]
    have hrk : Rk f.bit := ⟨by omega, by omega⟩
    have bits : ∀ {u : World}, St w [] u L → (∀ g, 0 < i → p.fs[i - 1]? = some g → g.bit < f.bit) → ∃ cs25 : List Value, List.length cs25 = 2 ∧ Cells u ⟨kb, 0, none⟩ cs25 ∧ ∃ cs26 : List Value, List.length cs26 = 2 ∧ Cells u (Addr.add (Addr.add ⟨pb, 0, none⟩ 2) 0) cs26 ∧
        Calls Tryd.prog 59 #[(.agg (List.toArray cs25)), (.int .i64 f.bit)] u fun e27 w28 => ∃ x29 : Int, e27 = .returned (.int .i64 x29) ∧
        (∃ cs30 : List Value, List.length cs30 = 2 ∧ Cells w28 (Addr.add (Addr.add ⟨pb, 0, none⟩ 2) 0) cs30 ∧ (((.agg (List.toArray cs30)) : Value) = (.agg (List.toArray cs26)) ∧ w28 = w28)) ∧
        Calls Tryd.prog 59 #[(.agg (List.toArray cs26)), (.int .i64 f.bit)] w28 fun e31 w32 => ∃ x33 : Int, e31 = .returned (.int .i64 x33) ∧
        (bif (!decide (x29 = x33)) then (Ending.returned (.bool false) = .returned (.bool (decide (formedP t r p))) ∧ Tch [] w w32)
        else (∃ m34, m34 < n - i ∧ ∃ j : Nat, (IntKind.wrap .i64 ((i : Int) + 1)) = j ∧ j ≤ n ∧ m34 = n - j ∧ St w [] w32 L ∧ RiseU p.fs j ∧ SameU (keyB t r) (keyB p.t p.r) p.fs j)) := by
      intro u hS hlt
      refine get_all (kkb hS) rfl ?_
      refine get_at2 (kpb hS) 2 2 (keyC p.t p.r) rfl rfl (by rw [add_mk, add_mk]) ?_
      refine (refBit_c u t r f.bit hk hrk).mono ?_
      rintro e w28 ⟨rfl, t2⟩
      replace hS := hS.quiet t2
      refine ⟨_, rfl, get_at2 (kpb hS) 2 2 (keyC p.t p.r) rfl rfl (by rw [add_mk, add_mk]) (by constructor <;> first | rfl | trivial), ?_⟩
      refine (refBit_c w28 p.t p.r f.bit hko hrk).mono ?_
      rintro e w32 ⟨rfl, t3⟩
      replace hS := hS.quiet t3
      refine ⟨_, rfl, ?_⟩
      by_cases hsm : bitS (keyB t r) f.bit = bitS (keyB p.t p.r) f.bit
      · rw [bif_npos hsm]
        exact ⟨n - (i + 1), by omega, i + 1, by rw [wrap_i64 (by omega) (by omega)]; omega, by omega, rfl, hS, hU.succ hfi hrk hlt, hV.succ hfi hsm⟩
      · rw [bif_nneg hsm]
        exact done (decide_eq_false fun h => hsm ((hiff.1 h).2.2 f hfm)).symm hS
    by_cases h0 : 0 < i
    · rw [bif_pos (by omega)]
      have hgi : p.fs[i - 1]? = some (p.fs[i - 1]'(by omega)) := List.getElem?_eq_getElem (by omega)
      generalize p.fs[i - 1]'(by omega) = g at hgi
      have ei : IntKind.wrap .i64 ((i : Int) - 1) = ((i - 1 : Nat) : Int) := by rw [wrap_i64 (by omega) (by omega)]; omega
      rw [ei]
      refine ⟨_, n, c, by rw [add_mk]; exact (kpb hS).cell 0, by omega, by omega, ?_⟩
      rw [Int.toNat_natCast]
      obtain ⟨b2, o2, eq2, hc2⟩ := (hp.quiet hS.tch).2.elem' hlen (by omega) hgi
      cases eq2
      refine ⟨g.bit, by rw [add_mk]; exact hc2 0 _ rfl, ?_⟩
      by_cases hle : f.bit ≤ g.bit
      · rw [bif_pos hle]
        exact ⟨trivial, done (decide_eq_false (no (fun h => (h i f (by omega) hfi).2 g h0 hgi) (by omega))).symm hS⟩
      · rw [bif_neg hle]
        exact bits hS fun g' _ hg' => by rw [hgi] at hg'; cases hg'; omega
    · rw [bif_neg (by omega)]
      exact bits hS fun g' h _ => absurd h h0
end Go.Proofs.YtjkbjppopdfggaaDoor.Sha
