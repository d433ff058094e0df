/-
  Verify: its contract.
  Own work. No macro, syntax, notation, axiom.
-/
import Derived.Test.YtjkbjppopdfggaaDoorVerC
namespace Go.Proofs.YtjkbjppopdfggaaDoor.Sha
open Go Den Fn
open Go.RowKit (Below)
open Classical
set_option maxRecDepth 8000
set_option maxHeartbeats 4000000

abbrev cellC (x : Bool × Int) : List Value := [.bool x.1, .int .i64 x.2]
theorem zcCell : zc Tryd.prog 45 = cellC (false, 0) := by kernel_rfl
theorem key_flat : flatK Tryd.prog 6 29 = some [.int .i64, .int .i64] := by kernel_rfl
theorem key_eqT : eqT Tryd.prog 6 29 = true := by kernel_rfl
theorem key_fits {t r : Int} (ht : I64 t) (hr : I64 r) : Fits [.int .i64, .int .i64] (keyC t r) := ⟨⟨rfl, i64_wf.2 ht⟩, ⟨rfl, i64_wf.2 hr⟩, trivial⟩
/-- What a call of Verify hands back. -/
noncomputable def VerR (root : List Int) (t r : Int) (p : Pf) (w : World) (e : Ending) (w' : World) : Prop := e = .returned (.tuple #[.agg (cellC (verS root t r p).1).toArray, .int .i64 (verS root t r p).2]) ∧ Tch [] w w'
theorem verify_c (w : World) (root : List Int) (t r : Int) (hrl : root.length = 32) (hrb : Bytes root) (ht : I64 t) (hr : I64 r) (p : Pf) (a : Option Addr) (n c : Nat) (hp : PfAt w a n c p) (hn : n ≤ 9223372036854775807) (hT : Tabs w) :
    Calls Tryd.prog 18 #[.agg (u8 root).toArray, .agg (keyC t r).toArray, .agg (pfC a n c p).toArray] w (VerR root t r p w) := by
  refine c18 _ _ _ ?_
  unfold d18
  rintro w3 rfl w4 rfl w5 rfl w6 rfl
  have hS := ((((St.refl w []).new (u8 root) 24 rfl).new (keyC t r) 29 rfl).new (pfC a n c p) 43 rfl).new (cs := zc Tryd.prog 45) (cellC (false, 0)) 45 zcCell
  have s1 := size_alloc w (.cells (u8 root).toArray 24)
  generalize w.alloc (.cells (u8 root).toArray 24) = w3 at *
  have s2 := size_alloc w3 (.cells (keyC t r).toArray 29)
  generalize w3.alloc (.cells (keyC t r).toArray 29) = w4 at *
  have s3 := size_alloc w4 (.cells (pfC a n c p).toArray 43)
  generalize w4.alloc (.cells (pfC a n c p).toArray 43) = w5 at *
  generalize w5.alloc (.cells (zc Tryd.prog 45).toArray 45) = w6 at *
  generalize hw0 : w.heap.size = r0 at *
  generalize w3.heap.size = kb at *
  generalize w4.heap.size = pb at *
  generalize w5.heap.size = ob at *
  let L : List Fact := [fBlk ob (cellC (false, 0)), fBlk pb (pfC a n c p), fBlk kb (keyC t r), fBlk r0 (u8 root)]
  replace hS : St w [] w6 L := hS
  have kob : ∀ {u : World}, St w [] u L → Blk u ob (cellC (false, 0)) := fun h => h.blk (by simp [L])
  have kpb : ∀ {u : World}, St w [] u L → Blk u pb (pfC a n c p) := fun h => h.blk (by simp [L])
  have kkb : ∀ {u : World}, St w [] u L → Blk u kb (keyC t r) := fun h => h.blk (by simp [L])
  have kr0 : ∀ {u : World}, St w [] u L → Blk u r0 (u8 root) := fun h => h.blk (by simp [L])
  have done : ∀ {u : World} {x : Bool × Int} {e : Int}, verS root t r p = (x, e) → St w [] u L → (Array.size (List.toArray (cellC x)) = 2 ∧ (∀ v ∈ Array.toList (List.toArray (cellC x)), one v = true) ∧ Room u ⟨ob, 0, none⟩ 2 ∧
      ∀ w' : World, w' = setCells u ⟨ob, 0, none⟩ (Array.toList (List.toArray (cellC x))) 0 → ∃ cs : List Value, List.length cs = 2 ∧ Cells w' ⟨ob, 0, none⟩ cs ∧ VerR root t r p w (.returned (.tuple #[.agg (List.toArray cs), .int .i64 e])) w') := by
    intro u x e he hS
    refine put_all (n := 2) (kob hS) rfl rfl (by simp [one]) fun w' k t1 _ => ?_
    refine get_all k rfl ⟨by rw [he], hS.tch.trans t1 fun i hi => .inr ?_⟩
    simp at hi
    omega
  refine get_all (kkb hS) rfl ?_
  refine (bytes_c t r w6).mono ?_
  rintro e w9 hby
  by_cases hk : KeyOk t
  rotate_left
  · rw [if_neg hk] at hby
    obtain ⟨rfl, t1⟩ := hby
    refine ⟨_, _, _, _, rfl, _, _, _, rfl, _, rfl, ?_⟩
    rw [bif_nneg (by omega)]
    exact ⟨cellC (false, 0), by rw [zcCell]; rfl, done (by unfold verS; rw [if_pos hk]) (hS.quiet t1)⟩
  rw [if_pos hk] at hby
  obtain ⟨ka, kc, rfl, hown, t1⟩ := hby
  replace hS := hS.quiet t1
  refine ⟨_, _, _, _, rfl, _, _, _, rfl, _, rfl, ?_⟩
  rw [bif_npos rfl]
  refine get_all (kr0 hS) (by simpa using hrl) (get_all (kpb hS) rfl ?_)
  refine (holds_c w9 root (keyB t r) hrl hrb ka kc (own_rsl hown ones_ints) p a n c (hp.quiet hS.tch) hn (hT.tch hS.tch)).mono ?_
  rintro e w20 ⟨rfl, t2⟩
  replace hS := hS.quiet t2
  refine ⟨_, rfl, ?_⟩
  by_cases hh : holdsP root (keyB t r) p
  rotate_left
  · rw [bif_nneg hh]
    exact ⟨cellC (false, 0), by rw [zcCell]; rfl, done (by unfold verS; rw [if_neg (by simpa using hk), if_pos hh]) hS⟩
  rw [bif_npos hh]
  have hv : verS root t r p = if p.leaf = true ∧ p.t = t ∧ p.r = r then ((true, p.v), 0) else ((false, 0), 0) := by
    unfold verS
    rw [if_neg (by simpa using hk), if_neg (by simpa using hh)]
  refine ⟨p.leaf, by rw [add_mk]; exact (kpb hS).cell 1, ?_⟩
  cases hleaf : p.leaf with
  | false =>
    rw [cond_false]
    exact ⟨cellC (false, 0), by rw [zcCell]; rfl, done (by rw [hv, if_neg (by rw [hleaf]; simp)]) hS⟩
  | true =>
    rw [cond_true]
    refine get_at2 (kpb hS) 2 2 (keyC p.t p.r) rfl rfl (by rw [add_mk, add_mk]) ?_
    refine get_all (kkb hS) rfl ?_
    refine eq_flat key_flat key_eqT (key_fits hp.1.t hp.1.r) (key_fits ht hr) (fun he => ?_) (fun he => ?_)
    · rw [cond_true]
      refine ⟨p.v, by rw [add_mk, add_mk]; exact (kpb hS).cell 4, cellC (true, p.v), by rw [zcCell]; rfl, done ?_ hS⟩
      rw [hv, if_pos ⟨hleaf, by simpa using he⟩]
    · rw [cond_false]
      refine ⟨cellC (false, 0), by rw [zcCell]; rfl, done ?_ hS⟩
      rw [hv, if_neg fun hc => he (by rw [hc.2.1, hc.2.2])]
end Go.Proofs.YtjkbjppopdfggaaDoor.Sha
