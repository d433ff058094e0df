/-
  MERGE's LAWS: the contract of awake.
  Own work. No macro, syntax, notation, axiom.
-/
import Derived.Test.YtjchneebdlncfaaMrgD
namespace Go.Proofs.Ytjchneebdlncfaa.Mrg
open Go Den Fn Lib
open Go.RowKit (Below)
open Classical
set_option maxRecDepth 8000
set_option maxHeartbeats 1000000

/-- Anywhere but in a merger. -/
def Else (mb pb k : Nat) : Prop := k ≠ mb ∧ k ≠ pb
theorem takeH {G : Nat → Prop} (w : World) (mb pb : Nat) (g : Mg) (h : Hist) (T : Nat → Nat → Prop) (n : Nat) (hM : MgAt (Else mb pb) w mb pb g) (H : HInv h T n g) (i j : Nat) (hi : i < hk h) (hj : j < heps h) (a : Option Addr) (m c : Nat) (hB : BatchV G w a m c (hb h i j)) :
    Calls Try.prog 15 #[.pointer (some ⟨mb, 0, none⟩), .agg [Value.int .i64 i, .int .i64 ((hf h + j : Nat) : Int), .slice a m c].toArray] w fun e w' => ∃ g', e = .returned (.int .i64 0) ∧ MgAt (Else mb pb) w' mb pb g' ∧ HInv h (fun a b => T a b ∨ (a = i ∧ b = j)) n g' ∧ Tch [mb, pb] w w' := by
  have hkr := hk_range h
  have hfr := hf_range h
  have her := heps_range h
  obtain ⟨hmb, hpb⟩ := hM.lt
  obtain ⟨g', e1, H'⟩ := H.take hi hj hB.ok
  refine (take_c w mb pb g hM i ((hf h + j : Nat) : Int) a m c _ hB (by unfold I64; omega) (by unfold I64; omega)).mono ?_
  rintro e w' ⟨rfl, hM', ht⟩
  rw [e1] at hM' ⊢
  exact ⟨g', rfl, hM'.mono (fun k hk => hk.elim id fun hb => ⟨by have := hb.1; omega, by have := hb.1; omega⟩) ⟨fun h => h.1 rfl, fun h => h.2 rfl⟩, H', ht⟩
/-- The next epoch, where it is whole. -/
theorem nextH {F : Nat → Prop} (w : World) (mb pb : Nat) (g : Mg) (h : Hist) (T : Nat → Nat → Prop) (n : Nat) (hM : MgAt F w mb pb g) (H : HInv h T n g) (hn : n < heps h) (hT : ∀ i, i < hk h → T i n) :
    Calls Try.prog 33 #[.pointer (some ⟨mb, 0, none⟩)] w fun e w' => ∃ g' a c, e = .returned (.tuple #[.slice a (hk h) c, .bool true]) ∧ MgAt F w' mb pb g' ∧ HInv h T (n + 1) g' ∧ Tch [mb, pb] w w' ∧
      BatsV F w' a (hk h) c ((List.range (hk h)).map fun i => hb h (rot h n i) n) ∧ (∀ x, a = some x → w.heap.size ≤ x.block) := by
  refine (next_c w mb pb g hM).mono ?_
  rintro e w' ⟨hM', ht, hR⟩
  obtain ⟨g', hnx, H'⟩ := H.next hn hT
  rw [hnx] at hM' hR
  obtain ⟨a, n', c, rfl, hB, hge⟩ := hR
  have := hB.count
  simp at this
  subst this
  exact ⟨g', a, c, rfl, hM', H', ht, hB, hge⟩
theorem noNextH {F : Nat → Prop} (w : World) (mb pb : Nat) (g : Mg) (h : Hist) (T : Nat → Nat → Prop) (n : Nat) (hM : MgAt F w mb pb g) (H : HInv h T n g) (hT : n = heps h ∨ ∃ i, i < hk h ∧ ¬ T i n) :
    Calls Try.prog 33 #[.pointer (some ⟨mb, 0, none⟩)] w fun e w' => e = .returned (.tuple #[.slice none 0 0, .bool false]) ∧ MgAt F w' mb pb g ∧ Tch [mb, pb] w w' := by
  refine (next_c w mb pb g hM).mono ?_
  rintro e w' ⟨hM', ht, hR⟩
  rw [H.stay hT] at hM' hR
  exact ⟨hR, hM', ht⟩
/-- A batch of one. -/
theorem single {B : Nat} {u : World} {v : List Value} {y : Tx} (h : TxV (Btw B u.heap.size) u v y) (hB : B ≤ u.heap.size) {K : World → Prop} (hK : ∀ u', BatchV (Btw B u'.heap.size) u' (some ⟨u.heap.size, 0, none⟩) 1 1 [y] → Tch [] u u' → u'.heap.size = u.heap.size + 1 → K u') :
    ∃ cs, fillL (.elems 4) (zrep (zc Try.prog 39) (1 * 4)) [(0, .agg v.toArray)] = some cs ∧ ∀ u' : World, u' = World.alloc u (.cells (List.toArray cs) 39) → K u' := by
  refine ⟨v, fill1 (by rw [zcTx]; rfl) rfl h.len, ?_⟩
  rintro u' rfl
  have hn : BlkT (u.alloc (.cells v.toArray 39)) u.heap.size 39 v := BlkT.new u v.toArray 39
  have ht := (Tch.refl [] u).alloc (.cells v.toArray 39)
  have hs := size_alloc u (.cells v.toArray 39)
  refine hK _ ⟨[v], rfl, ?_, fun i z y' hz hy => ?_⟩ ht hs
  · rw [show [v].flatten = v by simp]
    refine (FR.own (hn.own (base := u.heap.size) (size := 4) (n := 1) (Nat.le_refl _) (by have := h.len; omega) (by omega)) h.ones).mono fun k hk => ⟨by have := hk.1; omega, hk.2⟩
  · cases i with
    | succ i => simp at hz
    | zero =>
      cases hz; cases hy
      exact (h.quiet ht).mono fun k hk => ⟨hk.1, by have := hk.2; omega⟩
def H0 : Hist := ⟨1, 0, [[1], [2], [3], []]⟩
theorem hk0 : hk H0 = 2 := by decide
theorem hf0 : hf H0 = 1 := by decide
theorem he0 : heps H0 = 2 := by decide
theorem awake_c (w : World) : Calls Try.prog 7 #[] w fun e w' => e = .returned (.bool true) ∧ Tch [] w w' := by
  refine c7 ?_
  unfold d7
  refine (new_mg_c w 2 1 (by omega) (by unfold Ep; omega)).mono ?_
  rintro e w1 ⟨mb, pb, rfl, hM, ht, hmb, hpb⟩
  obtain ⟨lmb, lpb⟩ := hM.lt
  refine ⟨_, _, rfl, _, rfl, _, rfl, ?_⟩
  refine ⟨fun u => u = w1, ?_, ?_⟩
  · rw [bif_npos rfl]
    rfl
  rintro w7 rfl
  replace hM := hM.mono (G := Else mb pb) (fun _ h => h.elim) ⟨fun h => h.1 rfl, fun h => h.2 rfl⟩
  have H : HInv H0 (fun a b => (a, b) ∈ ([(1, 1), (0, 1), (1, 0), (0, 0)] : List (Nat × Nat)).take 0) 0 ⟨2, 1, 0, []⟩ := by
    have := HInv.new H0
    rw [hk0, hf0] at this
    simpa using this
  have hW := ht.size
  refine ⟨[.int .i64 1, .int .i64 2, .slice none 0 0], by rw [zcPiece]; rfl, ?_⟩
  refine (put_c 3 w7 (by unfold I64; omega)).mono ?_
  rintro e w10 ⟨x3, rfl, h3, t1⟩
  have q1 := t1.size
  refine ⟨_, rfl, ?_⟩
  refine single h3 q1 fun w13 b3 t2 s2 => ?_
  refine ⟨[.int .i64 0, .int .i64 2, .slice (some ⟨w10.heap.size, 0, none⟩) 1 1], by rw [zcPiece]; rfl, ?_⟩
  refine (put_c 2 w13 (by unfold I64; omega)).mono ?_
  rintro e w16 ⟨x2, rfl, h2, t3⟩
  have q3 := t3.size
  refine ⟨_, rfl, ?_⟩
  refine single h2 q3 fun w19 b2 t4 s4 => ?_
  refine ⟨[.int .i64 1, .int .i64 1, .slice (some ⟨w16.heap.size, 0, none⟩) 1 1], by rw [zcPiece]; rfl, ?_⟩
  refine (put_c 1 w19 (by unfold I64; omega)).mono ?_
  rintro e w22 ⟨x1, rfl, h1, t5⟩
  have q5 := t5.size
  refine ⟨_, rfl, ?_⟩
  refine single h1 q5 fun w25 b1 t6 s6 => ?_
  refine ⟨[.int .i64 0, .int .i64 1, .slice (some ⟨w22.heap.size, 0, none⟩) 1 1], by rw [zcPiece]; rfl, ?_⟩
  refine ⟨[.int .i64 1, .int .i64 2, .slice none 0 0] ++ [.int .i64 0, .int .i64 2, .slice (some ⟨w10.heap.size, 0, none⟩) 1 1] ++ [.int .i64 1, .int .i64 1, .slice (some ⟨w16.heap.size, 0, none⟩) 1 1] ++ [.int .i64 0, .int .i64 1, .slice (some ⟨w22.heap.size, 0, none⟩) 1 1], by rw [zcPiece]; rfl, ?_⟩
  rintro w28 rfl
  simp only [List.cons_append, List.nil_append]
  have hbk := Blk.fresh w25 (cs := [Value.int .i64 1, .int .i64 2, .slice none 0 0, .int .i64 0, .int .i64 2, .slice (some ⟨w10.heap.size, 0, none⟩) 1 1, .int .i64 1, .int .i64 1, .slice (some ⟨w16.heap.size, 0, none⟩) 1 1, .int .i64 0, .int .i64 1, .slice (some ⟨w22.heap.size, 0, none⟩) 1 1]) 35 rfl
  have t7 := (Tch.refl [] w25).alloc (.cells [Value.int .i64 1, .int .i64 2, .slice none 0 0, .int .i64 0, .int .i64 2, .slice (some ⟨w10.heap.size, 0, none⟩) 1 1, .int .i64 1, .int .i64 1, .slice (some ⟨w16.heap.size, 0, none⟩) 1 1, .int .i64 0, .int .i64 1, .slice (some ⟨w22.heap.size, 0, none⟩) 1 1].toArray 35)
  generalize w25.alloc (.cells [Value.int .i64 1, .int .i64 2, .slice none 0 0, .int .i64 0, .int .i64 2, .slice (some ⟨w10.heap.size, 0, none⟩) 1 1, .int .i64 1, .int .i64 1, .slice (some ⟨w16.heap.size, 0, none⟩) 1 1, .int .i64 0, .int .i64 1, .slice (some ⟨w22.heap.size, 0, none⟩) 1 1].toArray 35) = w28 at *
  have q2 := t2.size
  have q4 := t4.size
  have q6 := t6.size
  have t19 : Tch [] w19 w25 := t5.trans t6 (by simp)
  have t13 : Tch [] w13 w25 := (t3.trans t4 (by simp)).trans t19 (by simp)
  have t77 : Tch [] w7 w28 := ((t1.trans t2 (by simp)).trans t13 (by simp)).trans t7 (by simp)
  replace hM := hM.quiet t77
  have elseOf : ∀ {A B k : Nat}, w7.heap.size ≤ A → Btw A B k → Else mb pb k := fun hA hb => ⟨by have := hb.1; omega, by have := hb.1; omega⟩
  have B3 : BatchV (Else mb pb) w28 (some ⟨w10.heap.size, 0, none⟩) 1 1 (hb H0 0 1) := ((b3.quiet t13).quiet t7).mono fun k hk => elseOf (Nat.le_refl _) hk
  have B2 : BatchV (Else mb pb) w28 (some ⟨w16.heap.size, 0, none⟩) 1 1 (hb H0 1 0) := ((b2.quiet t19).quiet t7).mono fun k hk => elseOf (by omega) hk
  have B1 : BatchV (Else mb pb) w28 (some ⟨w22.heap.size, 0, none⟩) 1 1 (hb H0 0 0) := (b1.quiet t7).mono fun k hk => elseOf (by omega) hk
  have B0 : BatchV (Else mb pb) w28 none 0 0 (hb H0 1 1) := BatchV.nil _ _
  have tw : Tch [] w w28 := ht.trans t77 (by simp)
  have hb25 : mb ≠ w25.heap.size ∧ pb ≠ w25.heap.size := by omega
  generalize w25.heap.size = bk at *
  have old : ∀ {u : World}, Tch [mb, pb] w28 u → Tch [] w u := fun ht => tw.trans ht fun i hi => .inr (by simp at hi; omega)
  refine ⟨fun m x u => ∃ (i : Nat) (g : Mg), x = i ∧ i ≤ 4 ∧ m = 4 - i ∧ MgAt (Else mb pb) u mb pb g ∧ HInv H0 (fun a b => (a, b) ∈ ([(1, 1), (0, 1), (1, 0), (0, 0)] : List (Nat × Nat)).take i) 0 g ∧ Tch [mb, pb] w28 u, ⟨4, 0, _, rfl, by omega, rfl, hM, H, Tch.refl _ _⟩, ?_⟩
  clear hM H
  rintro m w31 x ⟨i, g, rfl, hi, rfl, hM, H, tu⟩
  have hbu := hbk.tch tu (by simp; omega)
  by_cases hlt : i < 4
  · rw [bif_pos (by omega)]
    refine ⟨by omega, by omega, ?_⟩
    rw [Int.toNat_natCast]
    have keep : ∀ {a : Option Addr} {n c : Nat} {l : List Tx}, BatchV (Else mb pb) w28 a n c l → BatchV (Else mb pb) w31 a n c l := fun h => h.tch tu fun k hk hh => by
      simp at hk
      rcases hk with rfl | rfl
      · exact hh.1 rfl
      · exact hh.2 rfl
    have body : ∀ (p j : Nat) (a : Option Addr) (n c : Nat), p < 2 → j < 2 → ([(1, 1), (0, 1), (1, 0), (0, 0)] : List (Nat × Nat))[i]? = some (p, j) → BatchV (Else mb pb) w28 a n c (hb H0 p j) → (([Value.int .i64 1, .int .i64 2, .slice none 0 0, .int .i64 0, .int .i64 2, .slice (some ⟨w10.heap.size, 0, none⟩) 1 1, .int .i64 1, .int .i64 1, .slice (some ⟨w16.heap.size, 0, none⟩) 1 1, .int .i64 0, .int .i64 1, .slice (some ⟨w22.heap.size, 0, none⟩) 1 1] : List Value).drop (i * 3)).take 3 = [Value.int .i64 p, .int .i64 ((hf H0 + j : Nat) : Int), .slice a n c] →
        ∃ cs33 : List Value, List.length cs33 = 3 ∧ Cells w31 (Addr.add ⟨bk, 0, none⟩ (i * 3)) cs33 ∧ Calls Try.prog 15 #[.pointer (some ⟨mb, 0, none⟩), .agg (List.toArray cs33)] w31 fun e34 w35 => ∃ x36 : Int, e34 = .returned (.int .i64 x36) ∧
          (bif (!decide (x36 = 0)) then (Ending.returned (.bool false) = .returned (.bool true) ∧ Tch [] w w35)
          else ∃ m37, m37 < 4 - i ∧ ∃ (i' : Nat) (g : Mg), IntKind.wrap .i64 ((i : Int) + 1) = i' ∧ i' ≤ 4 ∧ m37 = 4 - i' ∧ MgAt (Else mb pb) w35 mb pb g ∧ HInv H0 (fun a b => (a, b) ∈ ([(1, 1), (0, 1), (1, 0), (0, 0)] : List (Nat × Nat)).take i') 0 g ∧ Tch [mb, pb] w28 w35) := fun p j a n c hp hj hij hB hcs => by
      refine get_part hbu (i * 3) 3 _ hcs rfl ?_
      refine (takeH w31 mb pb g H0 _ 0 hM H p j (by rw [hk0]; exact hp) (by rw [he0]; exact hj) a n c (keep hB)).mono ?_
      rintro e w35 ⟨g', rfl, hM', H', t'⟩
      refine ⟨_, rfl, ?_⟩
      rw [bif_npos rfl]
      refine ⟨4 - (i + 1), by omega, i + 1, g', by rw [wrap_i64 (by omega) (by omega)]; omega, by omega, rfl, hM', ?_, tu.trans t' fun i hi => .inl hi⟩
      have e2 : (fun a b => (a, b) ∈ ([(1, 1), (0, 1), (1, 0), (0, 0)] : List (Nat × Nat)).take (i + 1)) = (fun a b => (a, b) ∈ ([(1, 1), (0, 1), (1, 0), (0, 0)] : List (Nat × Nat)).take i ∨ (a = p ∧ b = j)) := by
        funext a b
        rw [List.take_add_one, hij]
        simp
      rw [e2]
      exact H'
    rcases (show i = 0 ∨ i = 1 ∨ i = 2 ∨ i = 3 by omega) with rfl | rfl | rfl | rfl
    · exact body 1 1 none 0 0 (by omega) (by omega) rfl B0 (by rw [hf0]; rfl)
    · exact body 0 1 _ 1 1 (by omega) (by omega) rfl B3 (by rw [hf0]; rfl)
    · exact body 1 0 _ 1 1 (by omega) (by omega) rfl B2 (by rw [hf0]; rfl)
    · exact body 0 0 _ 1 1 (by omega) (by omega) rfl B1 (by rw [hf0]; rfl)
  rw [bif_neg (by omega)]
  obtain rfl : i = 4 := by omega
  have hT : ∀ n, n < 2 → ∀ i, i < hk H0 → (i, n) ∈ ([(1, 1), (0, 1), (1, 0), (0, 0)] : List (Nat × Nat)).take 4 := fun n hn i hi => by
    rw [hk0] at hi
    rcases (show n = 0 ∨ n = 1 by omega) with rfl | rfl <;> rcases (show i = 0 ∨ i = 1 by omega) with rfl | rfl <;> decide
  refine (nextH w31 mb pb g H0 _ 0 hM H (by rw [he0]; omega) (hT 0 (by omega))).mono ?_
  rintro e w39 ⟨g1, a1, c1, rfl, hM, H, u1, ⟨vs1, r1, l1⟩, ge1⟩
  refine ⟨_, _, _, _, rfl, _, _, _, rfl, _, rfl, ?_⟩
  refine (nextH w39 mb pb g1 H0 _ 1 hM H (by rw [he0]; omega) (hT 1 (by omega))).mono ?_
  rintro e w45 ⟨g2, a2, c2, rfl, hM, H, u2, ⟨vs2, r2, l2⟩, ge2⟩
  refine ⟨_, _, _, _, rfl, _, _, _, rfl, _, rfl, ?_⟩
  refine (noNextH w45 mb pb g2 H0 _ 2 hM H (.inl (by rw [he0]))).mono ?_
  rintro e w51 ⟨rfl, hM, u3⟩
  refine ⟨_, _, _, _, rfl, _, _, _, rfl, _, rfl, ?_⟩
  have s31 := tu.size
  have s39 := u1.size
  have s45 := u2.size
  have nF : ∀ k ∈ [mb, pb], ¬ Else mb pb k := fun k hk hh => by
    simp at hk
    rcases hk with rfl | rfl
    · exact hh.1 rfl
    · exact hh.2 rfl
  have f1 : Off [mb, pb] a1 := fun x hx hm => by have := ge1 x hx; have := t77.size; simp at hm; omega
  have f2 : Off [mb, pb] a2 := fun x hx hm => by have := ge2 x hx; have := t77.size; simp at hm; omega
  replace r1 := (r1.tch u2 f1).tch u3 f1
  replace r2 := r2.tch u3 f2
  replace l1 := (l1.tch u2 nF).tch u3 nF
  replace l2 := l2.tch u3 nF
  have tt : Tch [] w w51 := old (((tu.trans u1 fun i hi => .inl hi).trans u2 fun i hi => .inl hi).trans u3 fun i hi => .inl hi)
  rw [hk0] at r1 r2 l1 l2
  refine ⟨fun u => u = w51, ?_, ?_⟩
  · show Calls _ _ _ _ _
    refine (epochOf_c w51 mb pb g2 hM).mono ?_
    rintro e w58 ⟨rfl, rfl⟩
    refine ⟨_, rfl, ?_⟩
    rw [bif_npos (show g2.e = 3 by rw [H.ee, hf0]; rfl), hk0, bif_npos (show ((2 : Nat) : Int) = 2 from rfl), bif_npos (show ((2 : Nat) : Int) = 2 from rfl)]
  rintro w60 rfl
  rintro w61 rfl
  replace tt := tt.drew
  have td := (Tch.refl [] w60).drew
  replace r1 := r1.tch td (fun _ _ h => by cases h)
  replace r2 := r2.tch td (fun _ _ h => by cases h)
  replace l1 := l1.tch td (by simp)
  replace l2 := l2.tch td (by simp)
  generalize w60.drew = w61 at *
  rw [hk0]
  obtain ⟨y1, m1, d1, v1, P1⟩ := l1.get (i := 0) (l := [putTx 1]) rfl
  obtain ⟨y2, m2, d2, v2, P2⟩ := l1.get (i := 1) (l := [putTx 2]) rfl
  obtain ⟨y3, m3, d3, v3, P3⟩ := l2.get (i := 0) (l := []) rfl
  obtain ⟨y4, m4, d4, v4, P4⟩ := l2.get (i := 1) (l := [putTx 3]) rfl
  have small : ∀ v, Smalls [putTx v] := fun v => ⟨by simp, fun x hx => by simp at hx; rw [hx]; unfold Sm putTx; simp⟩
  cases a1 with
  | none => have := (rsl_none r1).1; omega
  | some x1 =>
  cases a2 with
  | none => have := (rsl_none r2).1; omega
  | some x2 =>
  refine ⟨by omega, by decide, y1, m1, d1, cellAt r1 v1, ?_⟩
  refine (put_c 1 w61 (by unfold I64; omega)).mono ?_
  rintro e w65 ⟨p1, rfl, h1', t1'⟩
  have q1' := t1'.size
  refine ⟨_, rfl, ⟨y1, m1, d1, cellAt (r1.tch t1' (fun _ _ h => by cases h)) v1, by constructor <;> first | rfl | trivial⟩, ?_⟩
  refine single h1' q1' fun w69 b1' t2' _ => ?_
  have T1 := t1'.trans t2' (by simp)
  refine ⟨⟨y1, m1, d1, cellAt (r1.tch T1 (fun _ _ h => by cases h)) v1, by constructor <;> first | rfl | trivial⟩, ?_⟩
  refine (sameBatch_c w69 y1 _ m1 d1 1 1 _ _ (P1.quiet T1) b1' (small 1)).mono ?_
  rintro e w72 ⟨rfl, t3'⟩
  refine ⟨_, rfl, ?_⟩
  rw [bif_pos rfl]
  have T2 := T1.trans t3' (by simp)
  refine ⟨by omega, by decide, y2, m2, d2, cellAt (r1.tch T2 (fun _ _ h => by cases h)) v2, ?_⟩
  refine (put_c 2 w72 (by unfold I64; omega)).mono ?_
  rintro e w77 ⟨p2, rfl, h2', t4'⟩
  have q2' := t4'.size
  have T3 := T2.trans t4' (by simp)
  refine ⟨_, rfl, ⟨y2, m2, d2, cellAt (r1.tch T3 (fun _ _ h => by cases h)) v2, by constructor <;> first | rfl | trivial⟩, ?_⟩
  refine single h2' q2' fun w81 b2' t5' _ => ?_
  have T4 := T3.trans t5' (by simp)
  refine ⟨⟨y2, m2, d2, cellAt (r1.tch T4 (fun _ _ h => by cases h)) v2, by constructor <;> first | rfl | trivial⟩, ?_⟩
  refine (sameBatch_c w81 y2 _ m2 d2 1 1 _ _ (P2.quiet T4) b2' (small 2)).mono ?_
  rintro e w84 ⟨rfl, t6'⟩
  refine ⟨_, rfl, ?_⟩
  rw [bif_pos rfl]
  have T5 := T4.trans t6' (by simp)
  refine ⟨by omega, by decide, y3, m3, d3, cellAt (r2.tch T5 (fun _ _ h => by cases h)) v3, ?_⟩
  have hm3 := P3.count
  simp at hm3
  subst hm3
  rw [bif_pos (by decide)]
  refine ⟨by omega, by decide, y4, m4, d4, cellAt (r2.tch T5 (fun _ _ h => by cases h)) v4, ?_⟩
  refine (put_c 3 w84 (by unfold I64; omega)).mono ?_
  rintro e w91 ⟨p3, rfl, h3', t7'⟩
  have q3' := t7'.size
  have T6 := T5.trans t7' (by simp)
  refine ⟨_, rfl, ⟨y4, m4, d4, cellAt (r2.tch T6 (fun _ _ h => by cases h)) v4, by constructor <;> first | rfl | trivial⟩, ?_⟩
  refine single h3' q3' fun w95 b3' t8' _ => ?_
  have T7 := T6.trans t8' (by simp)
  refine ⟨⟨y4, m4, d4, cellAt (r2.tch T7 (fun _ _ h => by cases h)) v4, by constructor <;> first | rfl | trivial⟩, ?_⟩
  refine (sameBatch_c w95 y4 _ m4 d4 1 1 _ _ (P4.quiet T7) b3' (small 3)).mono ?_
  rintro e w98 ⟨rfl, t9'⟩
  refine ⟨_, rfl, ?_, (tt.trans T7 (by simp)).trans t9' (by simp)⟩
  rw [decide_eq_true rfl]
end Go.Proofs.Ytjchneebdlncfaa.Mrg
