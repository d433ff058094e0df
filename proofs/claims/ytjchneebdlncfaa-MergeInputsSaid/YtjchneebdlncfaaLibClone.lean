/-
  slices.Clone OF BYTES: its contract.
  Own work. No macro, syntax, notation, axiom.
-/
import Derived.Test.YtjchneebdlncfaaLibBase
import Derived.Test.YtjchneebdlncfaaFnCod
import Derived.Test.YtjchneebdlncfaaDenWords9
namespace Go.Proofs.Ytjchneebdlncfaa.Lib
open Go Den Fn
open Go.RowKit (Below)
set_option maxRecDepth 8000
set_option maxHeartbeats 1000000

theorem clone_c (w : World) (bs : List Int) (a : Option Addr) (n c : Nat) (hr : RSl w 1 a n c (u8 bs)) (hN : n ≤ 140737488355328) :
    Calls Try.prog 74 #[.slice a n c] w fun e w' => ∃ a' c', e = .returned (.slice a' n c') ∧ w'.ownsRow w.heap.size 5 1 (.slice a' n c') n (u8 bs) ∧ Tch [] w w' := by
  refine c74 _ _ _ ?_
  unfold d74
  cases a with
  | none =>
    show ∃ _, _
    have hn : n = 0 := by
      rcases hr.at' with h | ⟨b, o, h, _⟩
      · have := hr.cap; omega
      · cases h
    subst hn
    have : bs = [] := by have := u8_len hr; exact List.length_eq_zero_iff.1 this
    subst this
    exact ⟨none, 0, rfl, own_nil _ _ _ _, Tch.refl _ _⟩
  | some x =>
    show ∀ _, _
    rintro w1 rfl
    have hb : Below w.heap.size w (w.alloc (.cells #[] 5)) := (Below.refl _ _).alloc (Nat.le_refl _) _
    have hs := size_alloc w (.cells #[] 5)
    refine app_at bT (own_new w (n := 0) (cs := []) (base := w.heap.size) (size := 1) (Nat.le_refl _) rfl (by omega)) (hr.below hb) (by omega) (by omega) (by omega) fun a' c' w' h1 h2 h3 => ?_
    rw [Nat.zero_add, List.nil_append] at h1
    rw [Nat.zero_add]
    exact ⟨a', c', rfl, h1, ((Tch.refl [] w).alloc _).trans h2 fun i hi => .inr (by simp [rowL] at hi; omega)⟩
end Go.Proofs.Ytjchneebdlncfaa.Lib
