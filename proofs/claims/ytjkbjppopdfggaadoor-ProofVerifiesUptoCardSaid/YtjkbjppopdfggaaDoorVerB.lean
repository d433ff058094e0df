/-
  slices.Backward over forks: the iterator's contract.
  Own work over the kit's contract of an iterator (SeqStopsK). No macro, syntax, notation, axiom.
-/
import Derived.Test.YtjkbjppopdfggaaDoorVerA
import Derived.Test.YtjkbjppopdfggaaDoorDenSound9
import Derived.Test.YtjkbjppopdfggaaDoorFnBack
namespace Go.Proofs.YtjkbjppopdfggaaDoor.Sha
open Go Den Fn
open Go.RowKit (Below)
set_option maxRecDepth 8000
set_option maxHeartbeats 1000000

/-- What a round is handed: the place, a fork of the right form. -/
abbrev Fo := { x : Nat × Fk // x.2.ok ∧ Rk x.2.bit }
def encF (x : Fo) : List Value := [.int .i64 (x.1.1 : Int), .agg (fkC x.1.2).toArray]
def ups (fs : List Fk) (h : ∀ f ∈ fs, f.ok ∧ Rk f.bit) : (k : Nat) → k ≤ fs.length → List Fo
  | 0, _ => []
  | k + 1, hk => ups fs h k (by omega) ++ [⟨(fs.length - 1 - k, fs[fs.length - 1 - k]'(by omega)), h _ (List.getElem_mem _)⟩]
theorem ups_map {fs : List Fk} {h : ∀ f ∈ fs, f.ok ∧ Rk f.bit} : ∀ {k : Nat} {hk : k ≤ fs.length}, (ups fs h k hk).map (·.1.2) = fs.reverse.take k
  | 0, _ => by simp [ups]
  | k + 1, hk => by
    rw [ups, List.map_append, ups_map, List.map_singleton, List.take_add_one, List.getElem?_reverse (by omega), List.getElem?_eq_getElem (by omega)]
    rfl
theorem ups_len {fs : List Fk} {h : ∀ f ∈ fs, f.ok ∧ Rk f.bit} {k : Nat} {hk : k ≤ fs.length} : (ups fs h k hk).length = k := by
  have := congrArg List.length (ups_map (h := h) (hk := hk))
  simpa [hk] using this
theorem yieldFr {m : Nat} {P : Program} {l : Nat} {args : Array Value} {W : World} {R : Ending → World → Prop} (h : YieldAt (Fr none) m P l args W R) : YieldAt Fence.wide 0 P l args W R := by
  obtain ⟨fn, tmps, asn, bd, hy, hR⟩ := h
  exact ⟨fn, tmps, asn, bd, hy, trivial, fun c cs _ => hR.2 c cs (room_wide _)⟩
theorem back_stops (w : World) (Bs : Nat) (a : Option Addr) (n c : Nat) (fs : List Fk) (h : ∀ f ∈ fs, f.ok ∧ Rk f.bit) (hr : RSl w 33 a n c (rows fkC fs)) (hn : n ≤ 9223372036854775807) (hB : w.cell? ⟨Bs, 0, none⟩ = some (.slice a n c)) :
    SeqStopsK (Fr none) 2 Tryd.prog 88 #[.pointer (some ⟨Bs, 0, none⟩)] (fun x : Fo => (encF x).toArray) (KpL (Bs :: if n = 0 then [] else rowL a)) (fun xs => xs.map (·.1.2) = fs.reverse) (fun pre => ∀ x ∈ pre, x.1.2 ∈ fs) fs.length w := by
  intro l J Jx W hW _ _ hY h0
  have hlen : ∀ f ∈ fs, (fkC f).length = 33 := fkC_len fun f hf => (h f hf).1
  have hnl : fs.length = n := hr.count hlen (by omega)
  have hBlt : Bs < w.heap.size := World.block_lt_of_cell? _ _ hB
  have hrW : RSl W 33 a n c (rows fkC fs) := hr.keep fun k _ hk => hW.block k hk
  have hBW : W.cell? ⟨Bs, 0, none⟩ = some (.slice a n c) := by rw [World.cell?_of_block (hW.block Bs hBlt)]; exact hB
  refine callsFr.2 ?_
  show Calls _ _ #[.func (.yield l) #[] #[], .pointer (some ⟨Bs, 0, none⟩)] W _
  refine c88 _ _ ?_
  unfold d88
  refine ⟨a, n, c, hBW, ?_⟩
  refine ⟨fun m i u => ∃ (k : Nat) (hk : k ≤ fs.length), i = (n : Int) - 1 - k ∧ m = fs.length - k ∧ J (ups fs h k hk) u ∧ RSl u 33 a n c (rows fkC fs) ∧ u.cell? ⟨Bs, 0, none⟩ = some (.slice a n c), ⟨_, 0, by omega, by rw [wrap_i64 (by omega) (by omega)]; omega, rfl, h0, hrW, hBW⟩, ?_⟩
  clear hrW hBW h0
  rintro m w6 i ⟨k, hk, rfl, rfl, hJ, hru, hBu⟩
  by_cases hkn : k < n
  rotate_left
  · rw [bif_neg (by omega)]
    refine ⟨⟨_, rfl⟩, .inl ⟨_, ?_, hJ⟩⟩
    show (ups fs h k hk).map (·.1.2) = _
    rw [ups_map, List.take_of_length_le (by simp; omega)]
  rw [bif_pos (by omega)]
  refine ⟨a, n, c, hBu, by omega, by omega, ?_⟩
  have ei : ((n : Int) - 1 - k).toNat = fs.length - 1 - k := by omega
  rw [ei]
  have hfi : fs[fs.length - 1 - k]? = some (fs[fs.length - 1 - k]'(by omega)) := List.getElem?_eq_getElem (by omega)
  refine hru.elem hlen (by omega) hfi ?_
  have hy := yieldFr (hY _ ⟨(fs.length - 1 - k, fs[fs.length - 1 - k]'(by omega)), h _ (List.getElem_mem _)⟩ w6 hJ (by rw [ups_len]; omega))
  have ea : (encF ⟨(fs.length - 1 - k, fs[fs.length - 1 - k]'(by omega)), h _ (List.getElem_mem _)⟩).toArray = #[] ++ #[.int .i64 ((n : Int) - 1 - k), .agg (fkC (fs[fs.length - 1 - k]'(by omega))).toArray] := by
    have : ((fs.length - 1 - k : Nat) : Int) = (n : Int) - 1 - k := by omega
    simp [encF, this]
  have hy := hy
  replace hy : YieldAt Fence.wide 0 Tryd.prog l (encF ⟨(fs.length - 1 - k, fs[fs.length - 1 - k]'(by omega)), h _ (List.getElem_mem _)⟩).toArray w6 _ := hy
  rw [ea] at hy
  obtain ⟨fn, tmps, asn, bd, hy1, hy2⟩ := hy
  refine ⟨fn, tmps, asn, bd, hy1, RoundIn.mono hy2 ?_⟩
  rintro e w13 (⟨rfl, hJ', hkp⟩ | ⟨rfl, hJx'⟩)
  · refine ⟨_, rfl, ?_⟩
    rw [show (!true) = false from rfl, cond_false]
    refine ⟨fs.length - (k + 1), by omega, k + 1, by omega, by rw [wrap_i64 (by omega) (by omega)]; omega, rfl, hJ', hru.keep fun z hz _ => hkp z ?_, ?_⟩
    · exact List.mem_cons_of_mem _ (by rw [if_neg (by omega)]; exact mem_rowL.2 hz)
    · rw [World.cell?_of_block (hkp Bs (by simp))]
      exact hBu
  · refine ⟨_, rfl, ?_⟩
    rw [show (!false) = true from rfl, cond_true]
    refine ⟨⟨_, rfl⟩, .inr ⟨_, fun x hx => ?_, hJx'⟩⟩
    have : x.1.2 ∈ (ups fs h (k + 1) (by omega)).map (·.1.2) := List.mem_map.2 ⟨x, hx, rfl⟩
    rw [ups_map] at this
    exact List.mem_reverse.1 (List.mem_of_mem_take this)
end Go.Proofs.YtjkbjppopdfggaaDoor.Sha
