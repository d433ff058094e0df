/-
  MergeOneLog: its contract.
  Own work. No macro, syntax, notation, axiom.
-/
import Derived.Test.YtjchneebdlncfaaMrgG
namespace Go.Proofs.Ytjchneebdlncfaa.Mrg
open Go Den Fn Lib
open Go.RowKit (Below)
open Classical
set_option maxRecDepth 8000
set_option maxHeartbeats 2000000

theorem boT : slT Try.prog 47 4 1 1 = true := by kernel_rfl
theorem zcBool : zc Try.prog 4 = [.bool false] := by kernel_rfl
/-- What the row of marks says. -/
def Marks (h : Hist) (th : List Bool) (i j : Nat) : Prop := th[j * hk h + i]? = some true
theorem Marks.set {h : Hist} {th : List Bool} {p : Nat} (hp : p < th.length) {i j : Nat} (hi : i < hk h) : Marks h (th.set p true) i j ↔ Marks h th i j ∨ (i = p % hk h ∧ j = p / hk h) := by
  have hdm := Nat.div_add_mod p (hk h)
  rw [Nat.mul_comm] at hdm
  unfold Marks
  rw [List.getElem?_set]
  by_cases he : p = j * hk h + i
  · rw [if_pos he, if_pos hp]
    refine ⟨fun _ => .inr ?_, fun _ => rfl⟩
    rw [he, Nat.add_comm, Nat.add_mul_mod_self_right, Nat.mod_eq_of_lt hi, Nat.add_mul_div_right _ _ (by omega), Nat.div_eq_of_lt hi]
    omega
  · rw [if_neg he]
    refine ⟨.inl, fun hh => hh.elim id fun ⟨h1, h2⟩ => ?_⟩
    rw [h1, h2] at he
    omega
/-- A slice of the marks: an epoch's. -/
theorem Marks.epoch {h : Hist} {th : List Bool} {j : Nat} (hl : (j + 1) * hk h ≤ th.length) : (∀ x ∈ (th.drop (j * hk h)).take (hk h), x = true) ↔ ∀ i, i < hk h → Marks h th i j := by
  rw [Nat.add_mul] at hl
  unfold Marks
  constructor
  · intro hh i hi
    have hlt : j * hk h + i < th.length := by omega
    have e : th[j * hk h + i]? = some (th[j * hk h + i]) := List.getElem?_eq_getElem hlt
    rw [e]
    congr 1
    refine hh _ (List.mem_of_getElem? (i := i) ?_)
    rw [List.getElem?_take, if_pos hi, List.getElem?_drop, e]
  · intro hh x hx
    obtain ⟨i, hix⟩ := List.getElem?_of_mem hx
    have hlt := (List.getElem?_eq_some_iff.1 hix).1
    rw [List.length_take] at hlt
    rw [List.getElem?_take, if_pos (by omega), List.getElem?_drop, hh i (by omega)] at hix
    cases hix
    rfl
theorem takeF {F G : Nat → Prop} (w : World) (mb pb : Nat) (g : Mg) (h : Hist) (T : Nat → Nat → Prop) (n : Nat) (hM : MgAt F w mb pb g) (hF : ∀ k, w.heap.size ≤ k → F k) (H : HInv h T n g) (i j : Nat) (hi : i < hk h) (hj : j < heps h) (a : Option Addr) (m c : Nat) (hB : BatchV G w a m c (hb h i j)) :
    Calls Try.prog 15 #[.pointer (some ⟨mb, 0, none⟩), .agg [Value.int .i64 i, .int .i64 ((hf h + j : Nat) : Int), .slice a m c].toArray] w fun e w' => ∃ g', e = .returned (.int .i64 0) ∧ MgAt F w' mb pb g' ∧ HInv h (fun a b => T a b ∨ (a = i ∧ b = j)) n g' ∧ Tch [mb, pb] w w' := by
  have hkr := hk_range h
  have hfr := hf_range h
  have her := heps_range h
  obtain ⟨g', e1, H'⟩ := H.take hi hj hB.ok
  refine (take_c w mb pb g hM i ((hf h + j : Nat) : Int) a m c _ hB (by unfold I64; omega) (by unfold I64; omega)).mono ?_
  rintro e w' ⟨rfl, hM', ht⟩
  rw [e1] at hM' ⊢
  exact ⟨g', rfl, hM'.mono (fun k hk => hk.elim id fun hb => hF k hb.1) hM.nF, H', ht⟩
def Els3 (mb pb tb k : Nat) : Prop := k ≠ mb ∧ k ≠ pb ∧ k ≠ tb
theorem oneLog_c (w : World) (cs : List Value) (h : Hist) (hh : HistV w cs h) (ol : List Int) (o : Option Addr) (n c : Nat) (ho : RSl w 1 o n c (i64s ol)) (hoI : ∀ x ∈ ol, I64 x) (hn63 : n ≤ 9223372036854775807) :
    Calls Try.prog 4 #[.agg cs.toArray, .slice o n c] w fun e w' => e = .returned (.bool true) ∧ Below w.heap.size w w' := by
  have hlen := hh.len
  have hkr := hk_range h
  have hfr := hf_range h
  have her := heps_range h
  have hon : ol.length = n := by have := ho.len; simp at this; omega
  refine c4 _ _ _ _ ?_
  unfold d4
  rintro w2 rfl
  have hS := (St.refl w []).new cs 24 rfl
  generalize w.alloc (.cells cs.toArray 24) = w2 at *
  generalize hab : w.heap.size = ab at *
  have bc : ∀ {u : World}, St w [] u [fBlk ab cs] → Blk u ab cs := fun hS => hS.blk (List.mem_singleton.2 rfl)
  have fin : ∀ {u : World} {b : Bool}, b = true → St w [] u [fBlk ab cs] → (Ending.returned (.bool b) = .returned (.bool true) ∧ Below ab w u) := fun hb h => ⟨by rw [hb], hab ▸ h.tch.below⟩
  refine (awake_c w2).mono ?_
  rintro e w4 ⟨rfl, t1⟩
  replace hS := hS.quiet t1
  refine ⟨_, rfl, ?_⟩
  rw [show (!true) = false from rfl, cond_false]
  rintro w6 rfl
  replace hS := hS.drew
  generalize w4.drew = w6 at *
  refine get_all (bc hS) hlen (get_all (bc hS) hlen (get_all (bc hS) hlen ?_))
  refine (inputs_c w6 cs h (hh.quiet hS.tch)).mono ?_
  rintro e w11 ⟨rfl, t1⟩
  replace hS := hS.quiet t1
  refine ⟨_, rfl, get_all (bc hS) hlen (by constructor <;> first | rfl | trivial), get_all (bc hS) hlen (by constructor <;> first | rfl | trivial), ?_⟩
  refine (first_c w11 cs h (hh.quiet hS.tch)).mono ?_
  rintro e w16 ⟨rfl, t1⟩
  replace hS := hS.quiet t1
  refine ⟨_, rfl, get_all (bc hS) hlen (by constructor <;> first | rfl | trivial), ?_⟩
  refine (epochs_c w16 cs h (hh.quiet hS.tch)).mono ?_
  rintro e w20 ⟨rfl, t1⟩
  replace hS := hS.quiet t1
  refine ⟨_, rfl, ?_⟩
  refine (new_mg_c w20 (hk h) (hf h) (by omega) (by unfold Ep; omega)).mono ?_
  rintro e w23 ⟨mb, pb, rfl, hM, t1, hm0, hp0⟩
  have hs20 := hS.size
  have hab20 := (bc hS).lt
  replace hS := hS.quiet t1
  clear t1
  replace hM := hM.mono (G := Else mb pb) (fun _ h => h.elim) ⟨fun h => h.1 rfl, fun h => h.2 rfl⟩
  have H := HInv.new h
  refine ⟨_, _, rfl, _, rfl, _, rfl, ?_⟩
  refine ⟨fun u => u = w23, ?_, ?_⟩
  · rw [bif_npos rfl]
    rfl
  rintro w29 rfl
  obtain ⟨lmb, lpb⟩ := hM.lt
  have hN : hk h * heps h ≤ 16 * 60 := Nat.mul_le_mul hkr.2 her.1
  have hNi : IntKind.wrap .i64 ((hk h : Int) * (heps h : Int)) = ((hk h * heps h : Nat) : Int) := by
    rw [show (hk h : Int) * (heps h : Int) = ((hk h * heps h : Nat) : Int) by norm_cast, wrap_i64 (by omega) (by omega)]
  have hall : ∀ j, j < heps h → (j + 1) * hk h ≤ hk h * heps h := fun j hj => by
    rw [Nat.mul_comm (hk h)]
    exact Nat.mul_le_mul_right _ (by omega)
  rw [hNi]
  generalize hNd : hk h * heps h = N at *
  refine mk_at boT (by omega) (by omega) fun w31 zs z1 z2 z3 t2 s2 => ?_
  have hzs : zs = (List.replicate N false).map Value.bool := by
    apply List.ext_getElem?
    intro i
    by_cases hi : i < N
    · rw [z2 _ zcBool rfl i (by omega)]
      simp [hi, Nat.mod_one]
    · rw [List.getElem?_eq_none (by omega), List.getElem?_eq_none (by simp; omega)]
  have htb := z3.blk
  rw [hzs] at htb
  generalize htbe : w29.heap.size = tb at *
  replace hS := hS.quiet t2
  replace hM := hM.quiet t2
  have hwm : w.heap.size ≤ mb ∧ w.heap.size ≤ pb := by omega
  clear z1 z2 z3 hzs t2
  let X : World → List Bool → Prop := fun u th => Blk u tb (th.map Value.bool) ∧ th.length = N ∧ St w [] u [fBlk ab cs]
  have hX : X w31 (List.replicate N false) := ⟨htb, by simp, hS⟩
  have adv : ∀ {u u' : World} {th : List Bool}, X u th → Tch [mb, pb] u u' → X u' th := fun ⟨h1, h2, h3⟩ ht =>
    ⟨h1.tch ht (by simp; omega), h2, h3.step ht (fun f hf => by
      obtain rfl := List.mem_singleton.1 hf
      exact fBlk_off (by simp; omega)) fun i hi => .inr (by simp at hi; omega)⟩
  have advq : ∀ {u u' : World} {th : List Bool}, X u th → Tch [] u u' → X u' th := fun h ht => adv h (ht.weaken (by simp))
  have htbr : ∀ {u : World} {th : List Bool}, X u th → RSl u 1 (some ⟨tb, 0, none⟩) N N (th.map Value.bool) := fun ⟨h1, h2, _⟩ => h1.rsl (by simp [h2]) fun u hu => by obtain ⟨b, _, rfl⟩ := List.mem_map.1 hu; rfl
  clear htb hS
  -- the state between two pieces
  let Y : World → Nat → Prop := fun u m => ∃ (g : Mg) (th : List Bool), X u th ∧ MgAt (Els3 mb pb tb) u mb pb g ∧ HInv h (Marks h th) m g ∧ ∀ j, j < m → ∀ i, i < hk h → Marks h th i j
  replace hM : MgAt (Els3 mb pb tb) w31 mb pb ⟨hk h, hf h, 0, []⟩ := ⟨hM.blk, ⟨[], by
    obtain ⟨es, h1, h2⟩ := hM.map
    cases es with
    | nil => exact h1
    | cons x y => exact h2.elim, trivial⟩, hM.ne, ⟨fun hh => hh.1 rfl, fun hh => hh.2.1 rfl⟩, hM.k, hM.e, hM.top, hM.good⟩
  have hY : Y w31 0 := ⟨_, _, hX, hM, H.congr fun i j _ => ⟨fun hh => hh.elim, fun hh => by
    unfold Marks at hh
    rw [List.getElem?_replicate] at hh
    split at hh
    · cases hh
    · cases hh⟩, fun j hj => by omega⟩
  clear hX hM H
  refine ⟨fun x u => ∃ m : Nat, x = m ∧ Y u m, ?_, ?_⟩
  · refine ⟨fun q g i u => ∃ k m : Nat, i = k ∧ k ≤ n ∧ q = n - k ∧ g = m ∧ Y u m, ⟨n, 0, 0, rfl, by omega, rfl, rfl, hY⟩, ?_⟩
    clear hY
    rintro q w36 g i ⟨k, m, rfl, hk', rfl, rfl, hY⟩
    refine ⟨fun u => u = w36 ∧ k < n ∧ 0 < heps h, ?_, ?_⟩
    · by_cases c1 : k < n
      · rw [bif_pos (by omega)]
        by_cases c2 : 0 < heps h
        · rw [bif_pos (by omega)]; exact ⟨rfl, c1, c2⟩
        · rw [bif_neg (by omega)]; exact ⟨m, rfl, hY⟩
      · rw [bif_neg (by omega)]; exact ⟨m, rfl, hY⟩
    rintro w40 ⟨rfl, hkn, hpos⟩
    obtain ⟨g, th, hX, hM, H, hall'⟩ := hY
    have hli : ol[k]? = some (ol[k]'(by omega)) := List.getElem?_eq_getElem (by omega)
    generalize ol[k]'(by omega) = v at hli
    obtain ⟨p, hp, hpe⟩ := modk (h := h) (a := v) (hoI v (List.mem_of_getElem? hli)) (by omega)
    rw [hNd] at hp
    rw [hNi] at hpe
    obtain ⟨pl1, pl2⟩ := place (h := h) (p := p) (by omega)
    obtain ⟨pi1, pi2⟩ := place_int (h := h) (p := p) (by omega)
    refine ⟨by omega, by omega, ?_⟩
    rw [Int.toNat_natCast]
    cases o with
    | none =>
      have := (rsl_none ho).1
      omega
    | some y =>
      have hc : ∀ {u : World}, Tch [] w u → World.cell? u (Addr.add y (k * 1)) = some (.int .i64 v) := fun ht => cellAt (ho.tch ht (fun _ _ h => by cases h)) (by rw [List.getElem?_map, hli]; rfl)
      refine ⟨v, hc hX.2.2.tch, ?_⟩
      rw [hpe, pi1, pi2]
      refine ⟨by rw [wrap_u64 (by omega) (by omega)]; omega, ?_⟩
      rintro w43 rfl
      replace hX := advq hX ((Tch.refl [] w40).drew)
      replace hM := hM.quiet ((Tch.refl [] w40).drew)
      generalize w40.drew = w43 at *
      refine get_all (bc hX.2.2) hlen ⟨by omega, by omega, ?_⟩
      refine (piece_c w43 cs h (hh.quiet hX.2.2.tch) _ _ pl1 pl2).mono ?_
      rintro e w46 ⟨ra, rc, rfl, hR, t1⟩
      refine ⟨_, rfl, ?_⟩
      replace hX := advq hX t1
      replace hM := hM.quiet t1
      have htbl := hX.1.lt
      obtain ⟨l1, l2⟩ := hM.lt
      refine (takeF w46 mb pb g h _ m hM (fun k hk => ⟨by omega, by omega, by omega⟩) H _ _ pl1 pl2 ra _ rc hR).mono ?_
      rintro e w49 ⟨g', rfl, hM, H, t2⟩
      replace hX := adv hX t2
      refine ⟨_, rfl, ?_⟩
      rw [bif_npos rfl]
      refine ⟨by omega, by omega, ?_⟩
      show _ ∧ _
      rw [Int.toNat_natCast, add_mk, Nat.mul_one, Nat.zero_add]
      refine ⟨rfl, by rw [hX.1.cell, List.getElem?_map, List.getElem?_eq_getElem (by rw [hX.2.1]; omega)]; rfl, hX.1.frozen _, ?_⟩
      rintro w52 rfl
      have t5 := (Tch.refl [tb] w49).setCell (p := ⟨tb, p, none⟩) (.inl (by simp)) (.bool true)
      have k5 := hX.1.set p (.bool true)
      generalize w49.setCell ⟨tb, p, none⟩ (.bool true) = w52 at *
      replace hM := hM.tch t5 (by simp; omega) (by simp; omega) (fun z hz hh => by simp at hz; exact hh.2.2 hz)
      replace hX : X w52 (th.set p true) := ⟨by rw [List.map_set]; exact k5, by rw [List.length_set]; exact hX.2.1, hX.2.2.step t5 (fun f hf => by
        obtain rfl := List.mem_singleton.1 hf
        exact fBlk_off (by simp; omega)) fun i hi => .inr (by simp at hi; omega)⟩
      have hth : p < th.length := by have := hX.2.1; rw [List.length_set] at this; omega
      replace H : HInv h (Marks h (th.set p true)) m g' := H.congr fun i j hi => (Marks.set hth hi).symm
      rintro w53 rfl
      replace hX := advq hX ((Tch.refl [] w52).drew)
      replace hM := hM.quiet ((Tch.refl [] w52).drew)
      generalize w52.drew = w53 at *
      refine get_all (bc hX.2.2) hlen ⟨by omega, by omega, ?_⟩
      refine ⟨v, hc hX.2.2.tch, ?_⟩
      refine (given_c w w53 cs h mb pb g' _ m _ hh hX.2.2.tch hwm.1 hwm.2 hM H).mono ?_
      rintro e w58 ⟨n', g2, rfl, hM, H, t6, hle, hwh, _, _⟩
      replace hX := adv hX t6
      refine ⟨_, _, rfl, _, rfl, _, rfl, ?_⟩
      rw [show (!true) = false from rfl, cond_false]
      have hnle := H.le
      refine (epochOf_c w58 mb pb g2 hM).mono ?_
      rintro e w64 ⟨rfl, rfl⟩
      refine ⟨_, rfl, ?_⟩
      rw [bif_npos (by rw [H.ee, wrap_i64 (by omega) (by omega)]; omega)]
      refine ⟨n - (k + 1), by omega, k + 1, n', by rw [wrap_i64 (by omega) (by omega)]; omega, by omega, rfl, rfl, g2, th.set p true, hX, hM, H, fun j hj i hi => ?_⟩
      by_cases hjm : j < m
      · exact (Marks.set hth hi).2 (.inl (hall' j hjm i hi))
      · exact hwh j (by omega) hj i hi
  clear hY
  rintro w67 x ⟨m, rfl, g, th, hX, hM, H, hall'⟩
  refine get_all (bc hX.2.2) hlen ?_
  refine (given_c w w67 cs h mb pb g _ m true hh hX.2.2.tch hwm.1 hwm.2 hM H).mono ?_
  rintro e w71 ⟨n1, g1, rfl, hM, H, t1, hle, hwh, hmore, _⟩
  replace hX := adv hX t1
  have hw1 : ∀ j, j < n1 → ∀ i, i < hk h → Marks h th i j := fun j hj i hi => by
    by_cases hjm : j < m
    · exact hall' j hjm i hi
    · exact hwh j (by omega) hj i hi
  have hstop := hmore rfl
  have hn1 := H.le
  refine ⟨_, _, rfl, _, rfl, _, rfl, ?_⟩
  rw [show (!true) = false from rfl, cond_false]
  refine ⟨fun x u => x = ((n1 : Nat) : Int) ∧ u = w71, ?_, ?_⟩
  · refine ⟨fun q x u => ∃ k : Nat, x = k ∧ k ≤ heps h ∧ q = heps h - k ∧ u = w71 ∧ (∀ j, j < k → ∀ i, i < hk h → Marks h th i j), ⟨heps h, 0, rfl, by omega, rfl, rfl, by omega⟩, ?_⟩
    rintro q w79 x ⟨k, rfl, hk1, rfl, rfl, hk2⟩
    have eqn : (k = heps h ∨ ∃ i, i < hk h ∧ ¬ Marks h th i k) → k = n1 := fun hc => by
      rcases Nat.lt_trichotomy k n1 with hlt | he | hgt
      · exfalso
        rcases hc with hc | ⟨i, hi, hno⟩
        · omega
        · exact hno (hw1 k hlt i hi)
      · exact he
      · exfalso
        rcases hstop with hc2 | ⟨i, hi, hno⟩
        · omega
        · exact hno (hk2 n1 hgt i hi)
    by_cases hlt : k < heps h
    rotate_left
    · rw [bif_neg (by omega)]
      exact ⟨by rw [eqn (.inl (by omega))], rfl⟩
    rw [bif_pos (by omega)]
    have hle1 := hall k hlt
    have hadd : (k + 1) * hk h = k * hk h + hk h := by rw [Nat.add_mul]; omega
    have e1 : IntKind.wrap .i64 (IntKind.wrap .i64 ((k : Int) + 1) * (hk h : Int)) = (((k + 1) * hk h : Nat) : Int) := by
      rw [wrap_i64 (n := (k : Int) + 1) (by omega) (by omega), show ((k : Int) + 1) * (hk h : Int) = (((k + 1) * hk h : Nat) : Int) by norm_cast, wrap_i64 (by omega) (by omega)]
    have e2 : IntKind.wrap .i64 ((k : Int) * (hk h : Int)) = ((k * hk h : Nat) : Int) := by
      rw [show (k : Int) * (hk h : Int) = ((k * hk h : Nat) : Int) by norm_cast, wrap_i64 (by omega) (by omega)]
    rw [e1, e2]
    simp only [Int.toNat_natCast]
    refine ⟨by omega, by omega, by omega, by omega, ?_⟩
    have hsub := (htbr hX).sub (l := k * hk h) (hh := (k + 1) * hk h) (by omega) (by omega)
    have ecs : ((th.map Value.bool).drop (k * hk h * 1)).take (((k + 1) * hk h - k * hk h) * 1) = ((th.drop (k * hk h)).take (hk h)).map Value.bool := by
      rw [Nat.mul_one, Nat.mul_one, List.map_take, List.map_drop, show (k + 1) * hk h - k * hk h = hk h by omega]
    rw [ecs] at hsub
    refine (all_c _ _ _ _ _ hsub (by omega)).mono ?_
    rintro e w82 ⟨rfl, rfl⟩
    refine ⟨_, rfl, ?_⟩
    have hme := Marks.epoch (h := h) (th := th) (j := k) (by rw [hX.2.1]; exact hle1)
    by_cases hwhole : ∀ x ∈ (th.drop (k * hk h)).take (hk h), x = true
    · rw [bif_pos hwhole]
      refine ⟨heps h - (k + 1), by omega, k + 1, by rw [wrap_i64 (by omega) (by omega)]; omega, by omega, rfl, rfl, fun j hj i hi => ?_⟩
      by_cases hjk : j = k
      · rw [hjk]; exact hme.1 hwhole i hi
      · exact hk2 j (by omega) i hi
    · rw [bif_neg hwhole]
      refine ⟨?_, rfl⟩
      rw [eqn (.inr (Classical.byContradiction fun hno => hwhole (hme.2 fun i hi => Classical.byContradiction fun hT => hno ⟨i, hi, hT⟩)))]
  rintro w85 x ⟨rfl, rfl⟩
  rw [bif_npos rfl]
  have hS := hX.2.2
  have advS : ∀ {u u' : World}, St w [] u [fBlk ab cs] → Tch [mb, pb] u u' → St w [] u' [fBlk ab cs] := fun h ht => h.step ht (fun f hf => by
      obtain rfl := List.mem_singleton.1 hf
      exact fBlk_off (by simp; omega)) fun i hi => .inr (by simp at hi; omega)
  refine ⟨fun q x r u => ∃ (a b : Nat) (g : Mg) (T : Nat → Nat → Prop), x = a ∧ r = b ∧ b ≤ a ∧ q = heps h - a ∧ St w [] u [fBlk ab cs] ∧ MgAt (Els3 mb pb tb) u mb pb g ∧ HInv h T a g ∧ (a = heps h ∨ ∃ i, i < hk h ∧ ¬ T i a) ∧ tb < u.heap.size, ⟨heps h - n1, n1, 0, g1, _, rfl, rfl, by omega, rfl, hS, hM, H, hstop, hX.1.lt⟩, ?_⟩
  clear hX hM H hS hstop hmore hwh hall' hw1 hle
  rintro q w89 x r ⟨a, b, g, T, rfl, rfl, hba, rfl, hS, hM, H, hst, htbl⟩
  have hale := H.le
  by_cases ha : a < heps h
  rotate_left
  · rw [bif_neg (by omega)]
    refine (epochOf_c w89 mb pb g hM).mono ?_
    rintro e w137 ⟨rfl, rfl⟩
    refine ⟨_, rfl, fin ?_ hS⟩
    rw [decide_eq_true]
    rw [H.ee, wrap_i64 (by omega) (by omega)]
    omega
  rw [bif_pos (by omega)]
  obtain ⟨q1, q2, q3, q4⟩ := H.miss ha
  obtain ⟨lm1, lm2⟩ := hM.lt
  refine (missing_c w89 mb pb g hM 1048576).mono ?_
  rintro e w93 ⟨la, lc, rfl, hown, t2⟩
  replace hS := hS.quiet t2
  replace hM := hM.quiet t2
  have htbl2 : tb < w93.heap.size := by have := t2.size; omega
  have hge := own_ge hown
  have hrow := own_rsl hown kCs_one
  have hoff : Off [mb, pb] la := fun y hy hm => by
    have := (hge y hy).1
    simp at hm
    omega
  have hlnz : (missS g 1048576).length ≠ 0 := fun h0 => by
    rcases hst with hst | ⟨i, hi, hno⟩
    · omega
    · have := q3 i hi hno
      rw [List.length_eq_zero_iff.1 h0] at this
      cases this
  generalize hL : missS g 1048576 = L at *
  refine ⟨_, _, _, rfl, ?_⟩
  refine ⟨fun u => u = w93, ?_, ?_⟩
  · rw [wrap_i64 (by omega) (by omega), bif_neg (by omega), bif_neg (by omega)]
  rintro w96 rfl
  refine ⟨fun q x u => ∃ (k : Nat) (g' : Mg), x = k ∧ k ≤ L.length ∧ q = L.length - k ∧ St w [] u [fBlk ab cs] ∧ MgAt (Els3 mb pb tb) u mb pb g' ∧ HInv h (fun i j => T i j ∨ ∃ t, t < k ∧ L[t]? = some ((i : Int), ((hf h + j : Nat) : Int))) a g' ∧ Tch [mb, pb] w96 u, ⟨L.length, 0, g, rfl, by omega, rfl, hS, hM, H.congr fun i j _ => ⟨.inl, fun hh => hh.elim id fun ⟨t, ht, _⟩ => by omega⟩, Tch.refl _ _⟩, ?_⟩
  clear hS hM H
  rintro q w99 x ⟨k, g', rfl, hk1, rfl, hS, hM, H, tu⟩
  have hs99 := tu.size
  by_cases hkl : k < L.length
  rotate_left
  · rw [bif_neg (by omega)]
    refine get_all (bc hS) hlen ?_
    refine (given_c w w99 cs h mb pb g' _ a true hh hS.tch hwm.1 hwm.2 hM H).mono ?_
    rintro e w130 ⟨n2, g2, rfl, hM, H, t3, hle, hwh, hmore, _⟩
    refine ⟨_, _, rfl, _, rfl, _, rfl, ?_⟩
    rw [show (!true) = false from rfl, cond_false]
    have hn2 := H.le
    have hgt : a < n2 := by
      rcases Nat.lt_or_ge a n2 with h1 | h1
      · exact h1
      · exfalso
        have e : n2 = a := by omega
        rcases hmore rfl with h2 | ⟨i, hi, hno⟩
        · omega
        · rw [e] at hno
          by_cases hT : T i a
          · exact hno (.inl hT)
          · obtain ⟨t, ht⟩ := List.getElem?_of_mem (q3 i hi hT)
            exact hno (.inr ⟨t, by have := (List.getElem?_eq_some_iff.1 ht).1; omega, ht⟩)
    have s130 := t3.size
    exact ⟨heps h - n2, by omega, n2, b + 1, g2, _, rfl, by rw [wrap_i64 (by omega) (by omega)]; omega, by omega, rfl, advS hS t3, hM, H, hmore rfl, by omega⟩
  rw [bif_pos (by omega)]
  rintro w101 rfl
  replace hS := hS.drew
  replace hM := hM.quiet ((Tch.refl [] w99).drew)
  replace tu := tu.drew
  have hsd : w99.drew.heap.size = w99.heap.size := rfl
  generalize w99.drew = w101 at *
  have hmem : L[k]'hkl ∈ L := List.getElem_mem hkl
  obtain ⟨i0, j0, hi0, hj0, hn0, hx, hT0⟩ := q1 _ hmem
  have hLk : L[k]? = some ((i0 : Int), ((hf h + j0 : Nat) : Int)) := by rw [List.getElem?_eq_getElem hkl, hx]
  have hnew : ¬ (T i0 j0 ∨ ∃ t, t < k ∧ L[t]? = some ((i0 : Int), ((hf h + j0 : Nat) : Int))) := fun hh => by
    rcases hh with hh | ⟨t, ht, hLt⟩
    · exact hT0 hh
    · have h1 := (List.getElem?_eq_some_iff.1 hLt)
      have h2 := (List.getElem?_eq_some_iff.1 hLk)
      obtain ⟨g1, g2⟩ := h1
      obtain ⟨g3, g4⟩ := h2
      have := (List.getElem_inj q2 (h₀ := g1) (h₁ := g3)).1 (g2.trans g4.symm)
      omega
  refine ⟨by omega, by omega, ?_⟩
  rw [Int.toNat_natCast]
  cases la with
  | none =>
    have := (rsl_none hrow).1
    omega
  | some y =>
    have cl : ∀ {u : World}, Tch [mb, pb] w96 u → ∀ (q : Nat) (v : Value), (kC ((i0 : Int), ((hf h + j0 : Nat) : Int)))[q]? = some v → World.cell? u (Addr.add (Addr.add y (k * 2)) q) = some v := fun ht q v hv => by
      obtain ⟨b', o', e, hc⟩ := (hrow.tch ht hoff).elem' kC_len (by omega) hLk
      cases e
      show World.cell? _ (Addr.add (Addr.add ⟨b', o', none⟩ (k * 2)) q) = some v
      rw [add_mk]
      exact hc q v hv
    have hI1 : I64 (i0 : Int) := by unfold I64; omega
    have hI2 : I64 ((hf h + j0 : Nat) : Int) := by unfold I64; omega
    refine (hrow.tch tu hoff).elem kC_len (by omega) hLk ?_
    refine (has_c w101 mb pb g' hM i0 _ hI1 hI2).mono ?_
    rintro e w105 ⟨rfl, t3⟩
    refine ⟨_, rfl, ?_⟩
    rw [H.has hi0 hj0 hn0, @bif_neg _ (propDecidable _) _ _ hnew]
    replace hS := hS.quiet t3
    replace hM := hM.quiet t3
    replace tu := tu.trans t3 (by simp)
    have s105 := t3.size
    refine ⟨by omega, by omega, ?_⟩
    show ∃ _, _
    refine ⟨_, cl tu 1 _ rfl, ?_⟩
    rw [bif_neg (by omega)]
    refine ⟨by omega, by omega, ?_⟩
    show ∃ _, _
    refine ⟨_, cl tu 1 _ rfl, ?_⟩
    have ew : IntKind.wrap .i64 (((hf h + j0 : Nat) : Int) - (hf h : Int)) = (j0 : Int) := by rw [wrap_i64 (by omega) (by omega)]; omega
    rw [ew, bif_neg (by omega)]
    refine get_all (bc hS) hlen ⟨by omega, by omega, ?_⟩
    show ∃ _, _
    refine ⟨_, cl tu 0 _ rfl, by omega, by omega, ?_⟩
    show ∃ _, _
    refine ⟨_, cl tu 1 _ rfl, ?_⟩
    rw [ew]
    refine (piece_c w105 cs h (hh.quiet hS.tch) i0 j0 hi0 hj0).mono ?_
    rintro e w117 ⟨ra, rc, rfl, hR, t4⟩
    refine ⟨_, rfl, ?_⟩
    replace hS := hS.quiet t4
    replace hM := hM.quiet t4
    replace tu := tu.trans t4 (by simp)
    have s117 := t4.size
    obtain ⟨z1, z2⟩ := hM.lt
    refine (takeF w117 mb pb g' h _ a hM (fun z hz => ⟨by omega, by omega, by omega⟩) H i0 j0 hi0 hj0 ra _ rc hR).mono ?_
    rintro e w120 ⟨g'', rfl, hM, H, t5⟩
    replace hS := advS hS t5
    replace tu := tu.trans t5 fun z hz => .inl hz
    refine ⟨_, rfl, ?_⟩
    rw [bif_npos rfl]
    refine ⟨by omega, by omega, ?_⟩
    refine (hrow.tch tu hoff).elem kC_len (by omega) hLk ?_
    refine (has_c w120 mb pb g'' hM i0 _ hI1 hI2).mono ?_
    rintro e w125 ⟨rfl, t6⟩
    refine ⟨_, rfl, ?_⟩
    rw [H.has hi0 hj0 hn0, @bif_npos _ (propDecidable _) _ _ (.inr ⟨rfl, rfl⟩)]
    refine ⟨L.length - (k + 1), by omega, k + 1, g'', by rw [wrap_i64 (by omega) (by omega)]; omega, by omega, rfl, hS.quiet t6, hM.quiet t6, H.congr fun i j _ => ?_, tu.trans t6 (by simp)⟩
    constructor
    · rintro ((hh | ⟨t, ht, hLt⟩) | ⟨rfl, rfl⟩)
      · exact .inl hh
      · exact .inr ⟨t, by omega, hLt⟩
      · exact .inr ⟨k, by omega, hLk⟩
    · rintro (hh | ⟨t, ht, hLt⟩)
      · exact .inl (.inl hh)
      · by_cases htk : t = k
        · rw [htk, hLk] at hLt
          simp only [Option.some.injEq, Prod.mk.injEq] at hLt
          exact .inr ⟨by omega, by omega⟩
        · exact .inl (.inr ⟨t, by omega, hLt⟩)
end Go.Proofs.Ytjchneebdlncfaa.Mrg
