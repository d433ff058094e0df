/-
  A MERGER's Missing: its contract.
  Own work. No macro, syntax, notation, axiom.
-/
import Derived.Test.YtjchneebdlncfaaLibMrg3
namespace Go.Proofs.Ytjchneebdlncfaa.Lib
open Go Den Fn
open Go.RowKit (Below)
open Classical
set_option maxRecDepth 8000
set_option maxHeartbeats 1000000

/-- What is missing of an epoch, of its first inputs. -/
noncomputable def missRow (g : Mg) (e : Int) : Nat → List (Int × Int)
  | 0 => []
  | i + 1 => missRow g e i ++ (if hasS g i e = true then [] else [((i : Int), e)])
/-- What is missing of the first epochs from the one that is waited for. -/
noncomputable def missTo (g : Mg) : Nat → List (Int × Int)
  | 0 => []
  | d + 1 => missTo g d ++ missRow g (g.e + d) g.k.toNat
/-- How many epochs are looked at. -/
def missN (g : Mg) : Nat := if Ep g.e then (if g.top < g.e then 1 else (g.top - g.e + 1).toNat) else 0
noncomputable def missS (g : Mg) (most : Int) : List (Int × Int) := (missTo g (missN g)).take most.toNat
theorem missRow_len (g : Mg) (e : Int) : ∀ i, (missRow g e i).length ≤ i
  | 0 => Nat.le_refl _
  | i + 1 => by
    unfold missRow
    have := missRow_len g e i
    rw [List.length_append]
    split <;> simp <;> omega
theorem missTo_len (g : Mg) (hk : g.k ≤ 16) : ∀ d, (missTo g d).length ≤ d * 16
  | 0 => Nat.le_refl _
  | d + 1 => by
    unfold missTo
    have h1 := missTo_len g hk d
    have h2 := missRow_len g (g.e + d) g.k.toNat
    rw [List.length_append]
    omega
theorem missRow_kI {g : Mg} {e : Int} (he : I64 e) : ∀ {i : Nat}, i ≤ 16 → ∀ x ∈ missRow g e i, kI x
  | 0, _, x, h => by cases h
  | i + 1, hi, x, h => by
    unfold missRow at h
    rcases List.mem_append.1 h with h | h
    · exact missRow_kI he (by omega) x h
    · split at h
      · cases h
      · simp at h
        rw [h]
        exact ⟨by unfold I64; simp only; omega, he⟩
theorem take_push {α : Type} {l : List α} {M : Nat} {x : List α} (h : M ≤ l.length) : (l ++ x).take M = l.take M := List.take_append_of_le_length h
theorem wT : slT Try.prog 49 53 2 16 = true := by kernel_rfl
theorem missing_c {F : Nat → Prop} (w : World) (mb pb : Nat) (g : Mg) (h : MgAt F w mb pb g) (most : Int) :
    Calls Try.prog 19 #[.pointer (some ⟨mb, 0, none⟩), .int .i64 most] w fun en w' => ∃ a c, en = .returned (.slice a (missS g most).length c) ∧ w'.ownsRow w.heap.size 53 2 (.slice a (missS g most).length c) (missS g most).length (rows kC (missS g most)) ∧ Tch [] w w' := by
  have hk := h.k
  have hge := h.e
  have htop := h.top
  obtain ⟨K, hK⟩ := Int.eq_ofNat_of_zero_le (show 0 ≤ g.k by omega)
  refine c19 _ _ ?_
  unfold d19
  refine ⟨g.e, h.cell 1, ?_⟩
  have hND : missN g ≤ 64 := by unfold missN; split <;> (try split) <;> omega
  refine ⟨fun m a n c x u => ∃ d : Nat, x = g.e + d ∧ d ≤ missN g ∧ m = missN g - d ∧ n = ((missTo g d).take most.toNat).length ∧ u.ownsRow w.heap.size 53 2 (.slice a n c) n (rows kC ((missTo g d).take most.toNat)) ∧ Tch [] w u, ⟨missN g, 0, by simp, by omega, rfl, by simp [missTo], by rw [show (missTo g 0).take most.toNat = [] by simp [missTo]]; exact own_nil _ _ _ _, Tch.refl _ _⟩, ?_⟩
  rintro m w6 a n c x ⟨d, rfl, hd, rfl, rfl, hown, ht⟩
  have hM := h.quiet ht
  have stop : d = missN g → ∃ a' c', Ending.returned (.slice a ((missTo g d).take most.toNat).length c) = .returned (.slice a' (missS g most).length c') ∧ w6.ownsRow w.heap.size 53 2 (.slice a' (missS g most).length c') (missS g most).length (rows kC (missS g most)) ∧ Tch [] w w6 := fun e => by
    unfold missS
    rw [← e]
    exact ⟨a, c, rfl, hown, ht⟩
  refine ⟨fun u => u = w6 ∧ d < missN g, ?_, ?_⟩
  · refine (epoch_c (g.e + d) w6).mono ?_
    rintro en w11 ⟨rfl, rfl⟩
    refine ⟨_, rfl, ?_⟩
    by_cases hep : Ep (g.e + d)
    rotate_left
    · rw [bif_neg hep]
      refine stop ?_
      unfold Ep at hep
      unfold missN at hd ⊢
      by_cases he : Ep g.e
      · rw [if_pos he] at hd ⊢
        unfold Ep at he
        split at hd
        · rename_i hlt
          rw [if_pos hlt]
          omega
        · rename_i hlt
          rw [if_neg hlt]
          omega
      · rw [if_neg he] at hd ⊢
        omega
    rw [bif_pos hep]
    refine ⟨g.e, hM.cell 1, ?_⟩
    have hE : Ep g.e := by unfold Ep at hep ⊢; omega
    by_cases h0 : g.e + (d : Int) = g.e
    · rw [bif_pos h0]
      refine ⟨rfl, ?_⟩
      unfold missN
      rw [if_pos hE]
      split <;> omega
    rw [bif_neg h0]
    refine ⟨g.top, hM.cell 2, ?_⟩
    by_cases h1 : g.e + (d : Int) ≤ g.top
    · rw [bif_pos h1]
      refine ⟨rfl, ?_⟩
      unfold missN
      rw [if_pos hE, if_neg (by omega)]
      omega
    · rw [bif_neg h1]
      refine stop ?_
      unfold missN at hd ⊢
      rw [if_pos hE] at hd ⊢
      split at hd
      · rename_i hlt
        rw [if_pos hlt]
        omega
      · rename_i hlt
        rw [if_neg hlt]
        omega
  rintro w17 ⟨rfl, hdl⟩
  have hlen := missTo_len g hk.2 d
  refine ⟨g.k, hM.cell 0, ?_⟩
  refine ⟨fun m a n c x u => ∃ i : Nat, x = i ∧ i ≤ K ∧ m = K - i ∧ n = ((missTo g d ++ missRow g (g.e + d) i).take most.toNat).length ∧ u.ownsRow w.heap.size 53 2 (.slice a n c) n (rows kC ((missTo g d ++ missRow g (g.e + d) i).take most.toNat)) ∧ Tch [] w u, ⟨K, 0, rfl, by omega, rfl, by simp [missRow], by simpa [missRow] using hown, ht⟩, ?_⟩
  clear hown stop hM ht
  rintro m w22 a n c x ⟨i, rfl, hi, rfl, rfl, hown, ht⟩
  by_cases hik : i < K
  rotate_left
  · rw [bif_neg (by omega)]
    obtain rfl : i = K := by omega
    refine ⟨missN g - (d + 1), by omega, d + 1, by rw [wrap_i64 (by omega) (by omega)]; omega, by omega, rfl, ?_, ?_, ht⟩
    · show _ = ((missTo g d ++ missRow g (g.e + d) g.k.toNat).take most.toNat).length
      rw [show g.k.toNat = i by omega]
    · show World.ownsRow w22 w.heap.size _ 2 _ _ (rows kC ((missTo g d ++ missRow g (g.e + d) g.k.toNat).take most.toNat))
      rw [show g.k.toNat = i by omega]
      exact hown
  rw [bif_pos (by omega)]
  have hrl := missRow_len g (g.e + d) i
  have hkI : kI ((i : Int), g.e + d) := ⟨by unfold I64; simp only; omega, by unfold I64; simp only; omega⟩
  refine ⟨kC ((i : Int), g.e + d), by rw [zcWant]; rfl, ?_⟩
  refine var_init (n := 2) (by rw [zcWant]; rfl) rfl kC_one fun w26 w27 k1 t1 _ => ?_
  generalize w22.heap.size = xb at *
  replace hown := own_up hown t1 (fun _ _ h => by cases h)
  replace ht := ht.trans t1 (by simp)
  have hstep : missRow g (g.e + d) (i + 1) = missRow g (g.e + d) i ++ (if hasS g i (g.e + d) = true then [] else [((i : Int), g.e + d)]) := rfl
  have hpre : (missTo g d ++ missRow g (g.e + d) i).length ≤ 2000 := by rw [List.length_append]; omega
  refine ⟨fun b u => (b = true → (missTo g d ++ missRow g (g.e + d) i).length < most.toNat ∧ hasS g i (g.e + d) = false) ∧ (b = false → (missTo g d ++ missRow g (g.e + d) (i + 1)).take most.toNat = (missTo g d ++ missRow g (g.e + d) i).take most.toNat) ∧ Tch [] w27 u, ?_, ?_⟩
  · by_cases hm : (((missTo g d ++ missRow g (g.e + d) i).take most.toNat).length : Int) < most
    · rw [bif_pos hm]
      refine get_all k1 rfl ?_
      refine (has_c w27 mb pb g (h.quiet ht) i (g.e + d) hkI.1 hkI.2).mono ?_
      rintro en w31 ⟨rfl, t2⟩
      refine ⟨_, rfl, fun hb => ⟨?_, by simpa using hb⟩, fun hb => ?_, t2⟩
      · rw [List.length_take] at hm
        omega
      · rw [hstep, if_pos (by simpa using hb), List.append_nil]
    · rw [bif_neg hm]
      refine ⟨(fun h => by cases h), fun _ => ?_, Tch.refl _ _⟩
      rw [hstep, ← List.append_assoc]
      refine take_push ?_
      rw [List.length_take] at hm
      omega
  rintro w33 b ⟨hb1, hb2, t2⟩
  replace hown := own_up hown t2 (fun _ _ h => by cases h)
  replace ht := ht.trans t2 (by simp)
  replace k1 := k1.tch t2 (by simp)
  cases b with
  | false =>
    show ∃ _, _
    refine ⟨K - (i + 1), by omega, i + 1, by rw [wrap_i64 (by omega) (by omega)]; omega, by omega, rfl, ?_, ?_, ht⟩
    · rw [hb2 rfl]
    · rw [hb2 rfl]; exact hown
  | true =>
    show ∃ _, _
    obtain ⟨q1, q2⟩ := hb1 rfl
    have e1 : (missTo g d ++ missRow g (g.e + d) i).take most.toNat = missTo g d ++ missRow g (g.e + d) i := List.take_of_length_le (by omega)
    have e2 : (missTo g d ++ missRow g (g.e + d) (i + 1)).take most.toNat = (missTo g d ++ missRow g (g.e + d) i) ++ [((i : Int), g.e + d)] := by
      rw [hstep, if_neg (by rw [q2]; simp), ← List.append_assoc]
      exact List.take_of_length_le (by rw [List.length_append, List.length_singleton]; omega)
    rw [e1] at hown ⊢
    refine get_all k1 rfl ?_
    refine app_elem_at wT hown (by rw [zcWant]; rfl) (ys := kC ((i : Int), g.e + d)) rfl rfl kC_one ht.size (by omega) (by omega) fun a5 c5 w39 o5 t5 m5 => ?_
    have hrow := rowL_ge hown
    refine ⟨K - (i + 1), by omega, i + 1, by rw [wrap_i64 (by omega) (by omega)]; omega, by omega, rfl, ?_, ?_, ht.trans t5 fun z hz => .inr (hrow z hz).1⟩
    · rw [e2]
      simp only [List.length_append, List.length_singleton]
    · rw [e2, rows_append, rows_one]
      exact o5
end Go.Proofs.Ytjchneebdlncfaa.Lib
