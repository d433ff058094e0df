/-
  MergeOneLog, the plain part: what Missing tells of a history; contract of all.
  Own work. No macro, syntax, notation, axiom.
-/
import Derived.Test.YtjchneebdlncfaaMrgF
import Derived.Test.YtjchneebdlncfaaLibMrg4
namespace Go.Proofs.Ytjchneebdlncfaa.Mrg
open Go Den Fn Lib
open Go.RowKit (Below)
open Classical
set_option maxRecDepth 8000
set_option maxHeartbeats 1000000

theorem missRow_mem {g : Mg} {e : Int} {x : Int × Int} : ∀ {i : Nat}, x ∈ missRow g e i ↔ ∃ a : Nat, a < i ∧ x = ((a : Int), e) ∧ hasS g a e = false
  | 0 => by simp [missRow]
  | i + 1 => by
    unfold missRow
    rw [List.mem_append, missRow_mem]
    constructor
    · rintro (⟨a, h1, h2, h3⟩ | h)
      · exact ⟨a, by omega, h2, h3⟩
      · split at h
        · cases h
        · rename_i hc
          simp at h
          exact ⟨i, by omega, h, by simpa using hc⟩
    · rintro ⟨a, h1, h2, h3⟩
      by_cases ha : a = i
      · subst ha
        refine .inr ?_
        rw [if_neg (by rw [h3]; simp), h2]
        simp
      · exact .inl ⟨a, by omega, h2, h3⟩
theorem missRow_nodup {g : Mg} {e : Int} : ∀ i : Nat, (missRow g e i).Nodup
  | 0 => List.nodup_nil
  | i + 1 => by
    unfold missRow
    rw [List.nodup_append]
    refine ⟨missRow_nodup i, by split <;> simp, fun x hx y hy => ?_⟩
    obtain ⟨a, h1, h2, _⟩ := missRow_mem.1 hx
    split at hy
    · cases hy
    · simp at hy
      rw [h2, hy]
      intro he
      simp only [Prod.mk.injEq] at he
      omega
theorem missTo_mem {g : Mg} {x : Int × Int} : ∀ {d : Nat}, x ∈ missTo g d ↔ ∃ t a : Nat, t < d ∧ a < g.k.toNat ∧ x = ((a : Int), g.e + t) ∧ hasS g a (g.e + t) = false
  | 0 => by simp [missTo]
  | d + 1 => by
    unfold missTo
    rw [List.mem_append, missTo_mem, missRow_mem]
    constructor
    · rintro (⟨t, a, h1, h2⟩ | ⟨a, h1, h2, h3⟩)
      · exact ⟨t, a, by omega, h2⟩
      · exact ⟨d, a, by omega, h1, h2, h3⟩
    · rintro ⟨t, a, h1, h2, h3, h4⟩
      by_cases ht : t = d
      · subst ht
        exact .inr ⟨a, h2, h3, h4⟩
      · exact .inl ⟨t, a, by omega, h2, h3, h4⟩
theorem missTo_nodup {g : Mg} : ∀ d : Nat, (missTo g d).Nodup
  | 0 => List.nodup_nil
  | d + 1 => by
    unfold missTo
    rw [List.nodup_append]
    refine ⟨missTo_nodup d, missRow_nodup _, fun x hx y hy => ?_⟩
    obtain ⟨t, a, h1, _, h2, _⟩ := missTo_mem.1 hx
    obtain ⟨a', _, h3, _⟩ := missRow_mem.1 hy
    rw [h2, h3]
    intro he
    simp only [Prod.mk.injEq] at he
    omega
/-- Has, of a merger of a history. -/
theorem HInv.has {h : Hist} {T : Nat → Nat → Prop} {n : Nat} {g : Mg} (H : HInv h T n g) {i j : Nat} (hi : i < hk h) (hj : j < heps h) (hn : n ≤ j) : hasS g i ((hf h + j : Nat) : Int) = decide (T i j) := by
  have hfr := hf_range h
  have her := heps_range h
  unfold hasS
  rw [decide_eq_decide]
  have hEp : Ep ((hf h + j : Nat) : Int) := by unfold Ep; omega
  constructor
  · rintro ⟨_, h2 | h2⟩
    · refine Classical.byContradiction fun hT => ?_
      have hno : pGet g.ps ((i : Int), ((hf h + j : Nat) : Int)) = none := H.non _ _ fun ⟨x, y, q1, q2, q3, q4, q5, q6⟩ => by
        have e1 : x = i := by omega
        have e2 : y = j := by omega
        rw [e1, e2] at q4
        exact hT q4
      rw [hno] at h2
      exact absurd h2 (by simp)
    · rw [H.ee] at h2; omega
  · intro hT
    refine ⟨fun hh => ?_, .inl ?_⟩
    · rcases hh with hh | hh | hh
      · omega
      · rw [H.kk] at hh; omega
      · exact hh hEp
    · rw [H.got i j hi hj hn hT]; rfl
/-- What Missing tells: pieces that are missing, each once, all those of the epoch that is waited for. -/
theorem HInv.miss {h : Hist} {T : Nat → Nat → Prop} {n : Nat} {g : Mg} (H : HInv h T n g) (hn : n < heps h) :
    (∀ x ∈ missS g 1048576, ∃ i j : Nat, i < hk h ∧ j < heps h ∧ n ≤ j ∧ x = ((i : Int), ((hf h + j : Nat) : Int)) ∧ ¬ T i j) ∧ (missS g 1048576).Nodup ∧ (∀ i, i < hk h → ¬ T i n → ((i : Int), ((hf h + n : Nat) : Int)) ∈ missS g 1048576) ∧ (missS g 1048576).length ≤ 2000 := by
  have hkr := hk_range h
  have hfr := hf_range h
  have her := heps_range h
  have hlen := missTo_len g (by rw [H.kk]; omega) (missN g)
  have htp := H.tp
  have hE := H.ep
  have hN : 1 ≤ missN g ∧ missN g ≤ 61 ∧ ∀ t, t < missN g → n + t < heps h := by
    unfold missN
    rw [if_pos hE]
    rw [H.ee] at *
    split
    · exact ⟨by omega, by omega, fun t ht => by omega⟩
    · exact ⟨by omega, by omega, fun t ht => by omega⟩
  have hall : missS g 1048576 = missTo g (missN g) := by
    unfold missS
    refine List.take_of_length_le ?_
    show _ ≤ 1048576
    omega
  rw [hall]
  refine ⟨fun x hx => ?_, missTo_nodup _, fun i hi hT => ?_, by omega⟩
  · obtain ⟨t, a, h1, h2, h3, h4⟩ := missTo_mem.1 hx
    have h5 := hN.2.2 t h1
    have ha : a < hk h := by rw [H.kk] at h2; simpa using h2
    have he : g.e + (t : Int) = ((hf h + (n + t) : Nat) : Int) := by rw [H.ee]; omega
    rw [he] at h3 h4
    refine ⟨a, n + t, ha, h5, by omega, h3, ?_⟩
    rw [H.has ha h5 (by omega)] at h4
    simpa using h4
  · refine missTo_mem.2 ⟨0, i, by omega, by rw [H.kk]; simpa using hi, ?_, ?_⟩
    · rw [H.ee]; simp
    · have := H.has hi hn (Nat.le_refl _)
      rw [show g.e + ((0 : Nat) : Int) = ((hf h + n : Nat) : Int) by rw [H.ee]; simp, this]
      simpa using hT
theorem all_c (w : World) (l : List Bool) (a : Option Addr) (n c : Nat) (hr : RSl w 1 a n c (l.map Value.bool)) (hN : n < 9223372036854775807) :
    Calls Try.prog 18 #[.slice a n c] w fun e w' => e = .returned (.bool (decide (∀ x ∈ l, x = true))) ∧ w' = w := by
  have hn : l.length = n := by have := hr.len; simp at this; omega
  refine c18 _ _ _ ?_
  unfold d18
  refine ⟨fun m x u => ∃ i : Nat, x = i ∧ i ≤ n ∧ m = n - i ∧ (∀ b ∈ l.take i, b = true) ∧ u = w, ⟨n, 0, rfl, by omega, rfl, by simp, rfl⟩, ?_⟩
  rintro m u x ⟨i, rfl, hi, rfl, hall, rfl⟩
  by_cases hlt : i < n
  · rw [bif_pos (by omega)]
    refine ⟨by omega, by omega, ?_⟩
    rw [Int.toNat_natCast]
    have hli : l[i]? = some (l[i]'(by omega)) := List.getElem?_eq_getElem (by omega)
    cases a with
    | none =>
      have := (rsl_none hr).1
      omega
    | some y =>
      refine ⟨l[i]'(by omega), cellAt hr (by rw [List.getElem?_map, hli]; rfl), ?_⟩
      generalize l[i]'(by omega) = b at hli
      cases b with
      | false =>
        refine ⟨?_, rfl⟩
        rw [decide_eq_false fun h => by cases h false (List.mem_of_getElem? hli)]
      | true =>
        refine ⟨n - (i + 1), by omega, i + 1, by rw [wrap_i64 (by omega) (by omega)]; omega, by omega, rfl, fun b hb => ?_, rfl⟩
        rw [List.take_add_one, hli] at hb
        rcases List.mem_append.1 hb with hb | hb
        · exact hall b hb
        · simpa using hb
  · rw [bif_neg (by omega)]
    rw [List.take_of_length_le (by omega)] at hall
    exact ⟨by rw [decide_eq_true hall], rfl⟩
end Go.Proofs.Ytjchneebdlncfaa.Mrg
