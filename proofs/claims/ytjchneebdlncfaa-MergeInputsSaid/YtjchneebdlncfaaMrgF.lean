/-
  MergeForged: its contract.
  Own work. No macro, syntax, notation, axiom.
-/
import Derived.Test.YtjchneebdlncfaaMrgE
namespace Go.Proofs.Ytjchneebdlncfaa.Mrg
open Go Den Fn Lib
open Go.RowKit (Below)
open Classical
set_option maxRecDepth 8000
set_option maxHeartbeats 2000000

theorem modk {h : Hist} {a : Int} (ha : I64 a) (h0 : heps h ≠ 0) : ∃ p : Nat, p < hk h * heps h ∧ IntKind.wrap .i64 (Int.tmod (IntKind.wrap .u64 a) (IntKind.wrap .u64 (IntKind.wrap .i64 ((hk h : Int) * (heps h : Int))))) = p := by
  have hkr := hk_range h
  have her := (heps_range h).1
  have hN : hk h * heps h ≤ 16 * 60 := Nat.mul_le_mul hkr.2 her
  have hpos : 0 < hk h * heps h := Nat.mul_pos (by omega) (by omega)
  have h1 : 0 ≤ IntKind.wrap .u64 a := by rw [wrap_u64_eq]; omega
  obtain ⟨y, hy⟩ := Int.eq_ofNat_of_zero_le h1
  refine ⟨y % (hk h * heps h), Nat.mod_lt _ hpos, ?_⟩
  rw [show (hk h : Int) * (heps h : Int) = ((hk h * heps h : Nat) : Int) by norm_cast]
  generalize hk h * heps h = N at *
  rw [hy, wrap_i64 (n := (N : Int)) (by omega) (by omega), wrap_u64 (n := (N : Int)) (by omega) (by omega), tmod_nat]
  have : y % N < N := Nat.mod_lt _ hpos
  rw [wrap_i64 (by omega) (by omega)]
theorem place {h : Hist} {p : Nat} (hp : p < hk h * heps h) : p % hk h < hk h ∧ p / hk h < heps h := by
  have hkr := hk_range h
  exact ⟨Nat.mod_lt _ (by omega), Nat.div_lt_of_lt_mul hp⟩
theorem place_int {h : Hist} {p : Nat} (hp : p < hk h * heps h) : Int.tmod (p : Int) (hk h : Int) = ((p % hk h : Nat) : Int) ∧ IntKind.wrap .i64 (Int.tdiv (p : Int) (hk h : Int)) = ((p / hk h : Nat) : Int) := by
  have h1 := (place hp).2
  have h2 := (heps_range h).1
  rw [tmod_nat, tdiv_nat]
  refine ⟨rfl, ?_⟩
  generalize p / hk h = q at *
  rw [wrap_i64 (by omega) (by omega)]
/-- A batch of puts. -/
def ob (l : List Int) : List Tx := (l.take 64).map putTx
theorem ob_good (l : List Int) : (ob l).length ≤ 64 ∧ ∀ x ∈ ob l, Lib.Good x := by
  unfold ob
  refine ⟨by simp; omega, fun x hx => ?_⟩
  obtain ⟨v, _, rfl⟩ := List.mem_map.1 hx
  exact putTx_good v
theorem HInv.congr {h : Hist} {T T' : Nat → Nat → Prop} {n : Nat} {g : Mg} (H : HInv h T n g) (hT : ∀ i j, i < hk h → (T i j ↔ T' i j)) : HInv h T' n g :=
  ⟨H.kk, H.ee, H.tp, H.le, H.nd, fun i j hi hj hn ht => H.got i j hi hj hn ((hT i j hi).2 ht), fun a b hab => H.non a b fun ⟨i, j, h1, h2, h3, h4, h5, h6⟩ => hab ⟨i, j, h1, h2, h3, (hT i j h1).1 h4, h5, h6⟩⟩
/-- A second piece, while its epoch is waited for. -/
theorem forgeS {h : Hist} {T : Nat → Nat → Prop} {n : Nat} {g : Mg} (H : HInv h T n g) {i j : Nat} (hi : i < hk h) (hj : j < heps h) (hn : n ≤ j) (hT : T i j) (l : List Int) :
    takeS g i ((hf h + j : Nat) : Int) (ob l) = (g, if hb h i j = ob l then 0 else 263) := by
  have hfr := hf_range h
  have her := heps_range h
  have henc := (encB_zero _).2 (ob_good l)
  have hEp : Ep ((hf h + j : Nat) : Int) := by unfold Ep; omega
  have hnl := H.le
  unfold takeS
  rw [if_neg (by rw [H.kk]; omega), if_neg (fun hh => by rcases hh with hh | hh; exact hh hEp; rw [H.ee] at hh; omega), if_neg (by simpa using henc), if_neg (by rw [H.ee]; omega), H.got i j hi hj hn hT]
/-- A second piece, when its epoch is past. -/
theorem pastS {h : Hist} {T : Nat → Nat → Prop} {n : Nat} {g : Mg} (H : HInv h T n g) {i j : Nat} (hi : i < hk h) (hj : j < heps h) (hn : j < n) (l : List Int) :
    takeS g i ((hf h + j : Nat) : Int) (ob l) = (g, 0) := by
  have hfr := hf_range h
  have her := heps_range h
  have henc := (encB_zero _).2 (ob_good l)
  have hEp : Ep ((hf h + j : Nat) : Int) := by unfold Ep; omega
  have hnl := H.le
  unfold takeS
  rw [if_neg (by rw [H.kk]; omega), if_neg (fun hh => by rcases hh with hh | hh; exact hh hEp; rw [H.ee] at hh; omega), if_neg (by simpa using henc), if_pos (by rw [H.ee]; omega)]
theorem Else.btw {mb pb A B k : Nat} (h1 : mb < A) (h2 : pb < A) (h : Btw A B k) : Else mb pb k := ⟨by have := h.1; omega, by have := h.1; omega⟩
theorem mgElse {mb pb : Nat} {w : World} {g : Mg} {A B : Nat} (hM : MgAt (fun k => Else mb pb k ∨ Btw A B k) w mb pb g) (h1 : mb < A) (h2 : pb < A) : MgAt (Else mb pb) w mb pb g :=
  hM.mono (fun _ hk => hk.elim id (Else.btw h1 h2)) ⟨fun h => h.1 rfl, fun h => h.2 rfl⟩
theorem batchPast {mb pb : Nat} {w w' : World} {a : Option Addr} {n c : Nat} {l : List Tx} (h : BatchV (Else mb pb) w a n c l) (ht : Tch [mb, pb] w w') : BatchV (Else mb pb) w' a n c l := h.tch ht fun k hk hh => by
  simp at hk
  rcases hk with rfl | rfl
  · exact hh.1 rfl
  · exact hh.2 rfl
theorem Grow.push' {B : Nat} {u0 u : World} {x : Option Addr} {k c : Nat} {l : List Tx} (h : Grow B u0 x k c l) (tq : Tch [] u0 u) {v : List Value} {y : Tx} (hv : TxV (Btw u0.heap.size u.heap.size) u v y) (hB : B ≤ u0.heap.size) (hl : l.length ≤ 100000) {z : List Value} (hz : z.length = 4) {Q : World → Prop} {K : Option Addr → Nat → Nat → World → Prop}
    (hQ : ∀ w1, Tch [] u w1 → Q w1) (hK : ∀ a' c' w', Grow B w' a' (k + 1) c' (l ++ [y]) → Tch (rowL x) u w' → (∀ i ∈ rowL x, B ≤ i) → K a' (k + 1) c' w') :
    ∃ cs, fillL (.elems 4) z [(0, .agg v.toArray)] = some cs ∧ ∀ w1 : World, w1 = World.alloc u (.cells (List.toArray cs) 39) → Q w1 ∧
      RunV Try.prog (Builtin.append_ #[33, 33] 33 #[.slice x k c, .slice (some ⟨World.heap u |>.size, 0, none⟩) 1 1]) w1 fun v w' => ∃ (x : Option Addr) (xn : Nat) (xc : Nat), v = (.slice x xn xc) ∧ K x xn xc w' := by
  obtain ⟨cs, h1, h2⟩ := h.push tq hv hB hl hz hK
  exact ⟨cs, h1, fun w1 e => ⟨hQ w1 (by subst e; exact (Tch.refl _ _).alloc _), h2 w1 e⟩⟩
theorem forged_c (w : World) (cs : List Value) (h : Hist) (hh : HistV w cs h) (a0 : Int) (ha0 : I64 a0) (ol : List Int) (o : Option Addr) (n c : Nat) (ho : RSl w 1 o n c (i64s ol)) (hoI : ∀ x ∈ ol, I64 x) :
    Calls Try.prog 3 #[.agg cs.toArray, .int .i64 a0, .slice o n c] w fun e w' => e = .returned (.bool true) ∧ Below w.heap.size w w' := by
  have hlen := hh.len
  have hkr := hk_range h
  have hfr := hf_range h
  have her := heps_range h
  have hon : ol.length = n := by have := ho.len; simp at this; omega
  refine c3 _ _ _ _ _ ?_
  unfold d3
  rintro w3 rfl
  have hS := (St.refl w []).new cs 24 rfl
  generalize w.alloc (.cells cs.toArray 24) = w3 at *
  generalize hab : w.heap.size = ab at *
  have bc : ∀ {u : World}, St w [] u [fBlk ab cs] → Blk u ab cs := fun hS => hS.blk (List.mem_singleton.2 rfl)
  have fin : ∀ {u : World} {b : Bool}, b = true → St w [] u [fBlk ab cs] → (Ending.returned (.bool b) = .returned (.bool true) ∧ Below ab w u) := fun hb h => ⟨by rw [hb], hab ▸ h.tch.below⟩
  refine (awake_c w3).mono ?_
  rintro e w5 ⟨rfl, t1⟩
  replace hS := hS.quiet t1
  refine ⟨_, rfl, ?_⟩
  rw [show (!true) = false from rfl, cond_false]
  rintro w7 rfl
  replace hS := hS.drew
  generalize w5.drew = w7 at *
  refine get_all (bc hS) hlen (get_all (bc hS) hlen ?_)
  refine (inputs_c w7 cs h (hh.quiet hS.tch)).mono ?_
  rintro e w11 ⟨rfl, t1⟩
  replace hS := hS.quiet t1
  refine ⟨_, rfl, get_all (bc hS) hlen (by constructor <;> first | rfl | trivial), ?_⟩
  refine (epochs_c w11 cs h (hh.quiet hS.tch)).mono ?_
  rintro e w15 ⟨rfl, t1⟩
  replace hS := hS.quiet t1
  refine ⟨_, rfl, get_all (bc hS) hlen ?_⟩
  refine (first_c w15 cs h (hh.quiet hS.tch)).mono ?_
  rintro e w19 ⟨rfl, t1⟩
  replace hS := hS.quiet t1
  refine ⟨_, rfl, ?_⟩
  refine (new_mg_c w19 (hk h) (hf h) (by omega) (by unfold Ep; omega)).mono ?_
  rintro e w22 ⟨mb, pb, rfl, hM, t1, hm0, hp0⟩
  have hs19 := hS.size
  have hab19 := (bc hS).lt
  replace hS := hS.quiet t1
  clear t1
  replace hM := hM.mono (G := Else mb pb) (fun _ h => h.elim) ⟨fun h => h.1 rfl, fun h => h.2 rfl⟩
  have H := HInv.new h
  refine ⟨_, _, rfl, _, rfl, _, rfl, ?_⟩
  refine ⟨fun u => u = w22, ?_, ?_⟩
  · rw [bif_npos rfl]
    rfl
  rintro w28 rfl
  obtain ⟨lmb, lpb⟩ := hM.lt
  by_cases h0 : heps h = 0
  · rw [bif_pos (by omega)]
    rintro w29 rfl
    replace hS := hS.drew
    replace hM := hM.quiet ((Tch.refl [] w28).drew)
    generalize w28.drew = w29 at *
    refine get_all (bc hS) hlen ?_
    refine (epochOf_c w29 mb pb _ hM).mono ?_
    rintro e w32 ⟨rfl, rfl⟩
    refine ⟨_, rfl, get_all (bc hS) hlen (by constructor <;> first | rfl | trivial), ?_⟩
    refine (first_c w32 cs h (hh.quiet hS.tch)).mono ?_
    rintro e w36 ⟨rfl, t1⟩
    exact ⟨_, rfl, fin (by simp) (hS.quiet t1)⟩
  rw [bif_neg (by omega)]
  obtain ⟨p, hp, hpe⟩ := modk (h := h) ha0 h0
  obtain ⟨pl1, pl2⟩ := place hp
  obtain ⟨pi1, pi2⟩ := place_int hp
  have hN : hk h * heps h ≤ 16 * 60 := Nat.mul_le_mul hkr.2 her.1
  have hNi : IntKind.wrap .i64 ((hk h : Int) * (heps h : Int)) = ((hk h * heps h : Nat) : Int) := by
    rw [show (hk h : Int) * (heps h : Int) = ((hk h * heps h : Nat) : Int) by norm_cast, wrap_i64 (by omega) (by omega)]
  rw [hpe, pi1, pi2, hNi, wrap_u64 (n := ((hk h * heps h : Nat) : Int)) (by omega) (by omega)]
  have hall : ∀ j, j < heps h → ∀ i, i < hk h → j * hk h + i < hk h * heps h := fun j hj i hi => by
    have h2 : (j + 1) * hk h ≤ heps h * hk h := Nat.mul_le_mul_right _ (by omega)
    rw [Nat.add_mul, Nat.mul_comm (heps h)] at h2
    omega
  generalize hpi : p % hk h = pi at *
  generalize hpj : p / hk h = pj at *
  generalize hNd : hk h * heps h = N at *
  refine ⟨by omega, ?_⟩
  refine ⟨fun q u => ∃ (b : Nat) (pa : Option Addr) (pc : Nat), q = some ⟨b, 0, none⟩ ∧ Blk u b [.int .i64 pi, .int .i64 ((hf h + pj : Nat) : Int), .slice pa (hb h pi pj).length pc] ∧ BatchV (Else mb pb) u pa (hb h pi pj).length pc (hb h pi pj) ∧ MgAt (Else mb pb) u mb pb ⟨hk h, hf h, 0, []⟩ ∧ St w [] u [fBlk ab cs] ∧ w28.heap.size ≤ b, ?_, ?_⟩
  · rintro w39 rfl
    replace hS := hS.drew
    replace hM := hM.quiet ((Tch.refl [] w28).drew)
    have hsz : w28.drew.heap.size = w28.heap.size := rfl
    generalize w28.drew = w39 at *
    refine get_all (bc hS) hlen ⟨by omega, by omega, ?_, ?_⟩
    · refine (piece_c w39 cs h (hh.quiet hS.tch) pi pj pl1 pl2).mono ?_
      rintro e w42 ⟨pa, pc, rfl, hB, t1⟩
      refine ⟨_, rfl, ?_⟩
      refine var_init (n := 3) (by rw [zcPiece]; rfl) rfl (by simp [one]) fun w44 w45 k1 t2 _ => ?_
      have q1 := t1.size
      exact ⟨_, pa, pc, rfl, k1, (hB.quiet t2).mono fun k hk => Else.btw (by omega) (by omega) hk, (hM.quiet t1).quiet t2, (hS.quiet t1).quiet t2, by omega⟩
    · rintro w46 rfl
      have t0 := (Tch.refl [] w39).alloc (.cells (zc Try.prog 35).toArray 35)
      have k0 := Blk.fresh w39 (cs := zc Try.prog 35) 35 rfl
      have s0 := size_alloc w39 (.cells (zc Try.prog 35).toArray 35)
      generalize w39.alloc (.cells (zc Try.prog 35).toArray 35) = w46 at *
      generalize hqb : w39.heap.size = qb at *
      refine ⟨get_all (bc (hS.quiet t0)) hlen (by constructor <;> first | rfl | trivial), ?_⟩
      refine (piece_c w46 cs h (hh.quiet (hS.quiet t0).tch) pi pj pl1 pl2).mono ?_
      rintro e w49 ⟨pa, pc, rfl, hB, t1⟩
      refine ⟨_, rfl, ?_⟩
      refine put_all (n := 3) (k0.tch t1 (by simp)) (by rw [zcPiece]; rfl) rfl (by simp [one]) fun w51 k1 t2 s2 => ?_
      have q1 := t1.size
      have t3 : Tch [] w39 w51 := (t0.trans t1 (by simp)).trans t2 (by simp; omega)
      refine ⟨_, pa, pc, rfl, k1, (hB.tch t2 fun k hk hb => ?_).mono fun k hk => Else.btw (by omega) (by omega) hk, hM.quiet t3, hS.quiet t3, by omega⟩
      have := hb.1
      simp at hk
      omega
  clear hM hS
  rintro w52 q ⟨b, pa, pc, rfl, hP, hB, hM, hS, hb28⟩
  have hblt := hP.lt
  refine ⟨_, by rw [add_mk]; exact hP.cell 0, _, by rw [add_mk]; exact hP.cell 1, [.int .i64 pi, .int .i64 ((hf h + pj : Nat) : Int), .slice none 0 0], by rw [zcPiece]; rfl, ?_⟩
  refine var_init (n := 3) (by rw [zcPiece]; rfl) rfl (by simp [one]) fun w59 w60 k1 t1 s1 => ?_
  have hs52 := hS.size
  replace hB := hB.under
  replace hM := hM.under
  generalize hqb : w52.heap.size = qb at *
  replace hP := hP.tch t1 (by simp)
  replace hB := hB.quiet t1
  replace hM := hM.quiet t1
  replace hS := hS.quiet t1
  clear t1
  refine ⟨fun u => ∃ (qa : Option Addr) (qc : Nat), Blk u qb [.int .i64 pi, .int .i64 ((hf h + pj : Nat) : Int), .slice qa (ob ol).length qc] ∧ BatchV (Else mb pb) u qa (ob ol).length qc (ob ol) ∧ Tch [qb] w60 u, ?_, ?_⟩
  · refine ⟨fun m x u => ∃ (i : Nat) (qa : Option Addr) (qc : Nat), x = i ∧ i ≤ min 64 n ∧ m = min 64 n - i ∧ Blk u qb [.int .i64 pi, .int .i64 ((hf h + pj : Nat) : Int), .slice qa i qc] ∧ Grow w60.heap.size u qa i qc ((ol.take i).map putTx) ∧ Tch [qb] w60 u, ⟨min 64 n, 0, none, 0, rfl, by omega, rfl, k1, Grow.nil _ _, Tch.refl _ _⟩, ?_⟩
    clear k1
    rintro m w64 x ⟨i, qa, qc, rfl, hi, rfl, k1, hG, tu⟩
    have done : ¬ (i < n ∧ i < 64) → ∃ (qa : Option Addr) (qc : Nat), Blk w64 qb [.int .i64 pi, .int .i64 ((hf h + pj : Nat) : Int), .slice qa (ob ol).length qc] ∧ BatchV (Else mb pb) w64 qa (ob ol).length qc (ob ol) ∧ Tch [qb] w60 w64 := fun hc => by
      have e1 : ol.take i = ol.take 64 := by
        rcases Nat.lt_or_ge n 64 with h | h
        · rw [List.take_of_length_le (by omega), List.take_of_length_le (by omega)]
        · rw [show i = 64 by omega]
      rw [e1] at hG
      have hl : (ob ol).length = i := by unfold ob; rw [List.length_map, List.length_take]; omega
      rw [hl]
      exact ⟨qa, qc, k1, hG.done.mono fun k hk => Else.btw (by omega) (by omega) hk, tu⟩
    refine ⟨fun u => u = w64 ∧ i < n ∧ i < 64, ?_, ?_⟩
    · by_cases c1 : i < n
      · rw [bif_pos (by omega)]
        by_cases c2 : i < 64
        · rw [bif_pos (by omega)]; exact ⟨rfl, c1, c2⟩
        · rw [bif_neg (by omega)]; exact done (fun h => c2 h.2)
      · rw [bif_neg (by omega)]; exact done (fun h => c1 h.1)
    clear done
    rintro w67 ⟨rfl, c1, c2⟩
    rintro w68 rfl
    replace k1 := k1.tch ((Tch.refl [] w67).drew) (by simp)
    replace hG := hG.quiet ((Tch.refl [] w67).drew)
    replace tu := tu.drew
    generalize w67.drew = w68 at *
    refine ⟨qa, i, qc, by rw [add_mk]; exact k1.cell 2, by omega, by omega, ?_⟩
    rw [Int.toNat_natCast]
    have tw : Tch [] w w68 := hS.tch.trans tu (by simp; omega)
    obtain ⟨b1, o1, rfl, hc⟩ := (ho.tch tw (fun _ _ h => by cases h)).int (i := i) c1
    show ∃ _, _
    rw [add_mk, Nat.mul_one]
    have hle : ol[i]? = some (ol[i]'(by omega)) := List.getElem?_eq_getElem (by omega)
    refine ⟨_, hc, ?_⟩
    rw [List.getD_eq_getElem?_getD, hle, Option.getD_some]
    generalize ol[i]'(by omega) = v at hle
    refine (put_c v w68 (hoI v (List.mem_of_getElem? hle))).mono ?_
    rintro e w73 ⟨xs, rfl, hT, t2⟩
    replace k1 := k1.tch t2 (by simp)
    refine ⟨_, rfl, ⟨qa, i, qc, by rw [add_mk]; exact k1.cell 2, by constructor <;> first | rfl | trivial⟩, ?_⟩
    refine hG.push' t2 hT tu.size (by simp; omega) (by rw [zcTx]; rfl) (fun w1 t => ⟨qa, i, qc, by rw [add_mk]; exact (k1.tch t (by simp)).cell 2, by constructor <;> first | rfl | trivial⟩) fun a' c' w' g1 t3 r1 => ?_
    have k2 := k1.tch t3 (fun hm => by have := r1 qb hm; omega)
    refine ⟨rfl, by rw [add_mk, k2.cell]; rfl, by rw [add_mk]; exact k2.frozen _, ?_⟩
    rintro w82 rfl
    rw [add_mk]
    have t4 := (Tch.refl [qb] w').setCell (p := ⟨qb, 0 + 2, none⟩) (.inl (by simp)) (.slice a' (i + 1) c')
    refine ⟨min 64 n - (i + 1), by omega, i + 1, a', c', by rw [wrap_i64 (by omega) (by omega)]; omega, by omega, rfl, k2.set 2 _, ?_, ?_⟩
    · rw [List.take_add_one, hle]
      have g2 := g1.tch t4 (by simp; omega)
      simpa using g2
    · exact ((tu.trans t2 (by simp)).trans t3 fun z hz => .inr (r1 z hz)).trans t4 fun z hz => .inl hz
  clear k1
  rintro w84 ⟨qa, qc, hQ, hO, tu⟩
  replace hP := hP.tch tu (by simp; omega)
  have hqF : ∀ k ∈ [qb], ¬ (Else mb pb k ∧ k < qb) := fun k hk hh => by simp at hk; omega
  replace hB := (hB.tch tu hqF).mono (G := Else mb pb) fun k hk => hk.1
  replace hM := (hM.tch tu (by simp; omega) (by simp; omega) hqF).mono (G := Else mb pb) (fun k hk => hk.1) ⟨fun h => h.1 rfl, fun h => h.2 rfl⟩
  replace hS := hS.step tu (fun f hf => by
    obtain rfl := List.mem_singleton.1 hf
    exact fBlk_off (by simp; omega)) fun i hi => .inr (by simp at hi; omega)
  have hwm : w.heap.size ≤ mb ∧ w.heap.size ≤ pb := by omega
  let X : World → Prop := fun u => Blk u b [.int .i64 pi, .int .i64 ((hf h + pj : Nat) : Int), .slice pa (hb h pi pj).length pc] ∧ Blk u qb [.int .i64 pi, .int .i64 ((hf h + pj : Nat) : Int), .slice qa (ob ol).length qc] ∧
    BatchV (Else mb pb) u pa (hb h pi pj).length pc (hb h pi pj) ∧ BatchV (Else mb pb) u qa (ob ol).length qc (ob ol) ∧ St w [] u [fBlk ab cs]
  have hX : X w84 := ⟨hP, hQ, hB, hO, hS⟩
  have adv : ∀ {u u' : World}, X u → Tch [mb, pb] u u' → X u' := fun ⟨h1, h2, h3, h4, h5⟩ ht =>
    ⟨h1.tch ht (by simp; omega), h2.tch ht (by simp; omega), batchPast h3 ht, batchPast h4 ht, h5.step ht (fun f hf => by
      obtain rfl := List.mem_singleton.1 hf
      exact fBlk_off (by simp; omega)) fun i hi => .inr (by simp at hi; omega)⟩
  have advq : ∀ {u u' : World}, X u → Tch [] u u' → X u' := fun h ht => adv h (ht.weaken (by simp))
  clear hP hQ hB hO hS tu
  rintro w85 rfl
  replace hX := advq hX ((Tch.refl [] w84).drew)
  replace hM := hM.quiet ((Tch.refl [] w84).drew)
  generalize w84.drew = w85 at *
  show ∃ _, _
  refine get_all hX.1 rfl (get_all hX.2.1 rfl ?_)
  show ∃ _, _
  refine get_all hX.1 rfl ?_
  refine (takeH w85 mb pb _ h _ 0 hM H pi pj pl1 pl2 pa _ pc hX.2.2.1).mono ?_
  rintro e w92 ⟨g1, rfl, hM, H, t1⟩
  replace hX := adv hX t1
  refine ⟨_, rfl, get_all hX.1 rfl (by constructor <;> first | rfl | trivial), get_all hX.2.1 rfl (by constructor <;> first | rfl | trivial), ?_⟩
  have f1 := forgeS H pl1 pl2 (Nat.zero_le _) (.inr ⟨rfl, rfl⟩) ol
  obtain ⟨l1, l2⟩ := hM.lt
  refine (take_c w92 mb pb g1 hM pi ((hf h + pj : Nat) : Int) qa _ qc _ hX.2.2.2.1 (by unfold I64; omega) (by unfold I64; omega)).mono ?_
  rintro e w98 ⟨rfl, hM2, t2⟩
  rw [f1] at hM2 ⊢
  replace hM2 := mgElse hM2 l1 l2
  replace hX := adv hX t2
  refine ⟨_, rfl, get_all hX.1 rfl (by constructor <;> first | rfl | trivial), ?_⟩
  refine (takeH w98 mb pb _ h _ 0 hM2 H pi pj pl1 pl2 pa _ pc hX.2.2.1).mono ?_
  rintro e w103 ⟨g3, rfl, hM, H, t3⟩
  replace hX := adv hX t3
  clear hM2 f1 l1 l2 t1 t2 t3
  refine ⟨_, rfl, ?_⟩
  refine ⟨fun want u => want = (if hb h pi pj = ob ol then 0 else 263) ∧ X u ∧ MgAt (Else mb pb) u mb pb g3, ?_, ?_⟩
  · show ∃ _, _
    refine get_all hX.1 rfl (get_all hX.2.1 rfl ?_)
    refine (samePiece_c w103 _ _ _ _ pa qa _ pc _ qc _ _ hX.2.2.1 hX.2.2.2.1 hb_small).mono ?_
    rintro e w110 ⟨rfl, t4⟩
    refine ⟨_, rfl, ?_⟩
    by_cases he : hb h pi pj = ob ol
    · rw [bif_pos ⟨rfl, rfl, he⟩]
      exact ⟨by rw [if_pos he], advq hX t4, hM.quiet t4⟩
    · rw [bif_neg fun hh => he hh.2.2]
      exact ⟨by rw [if_neg he], advq hX t4, hM.quiet t4⟩
  clear hX hM
  rintro w112 want ⟨rfl, hX, hM⟩
  refine ⟨fun u => u = w112, ?_, ?_⟩
  · rw [bif_npos rfl, bif_npos rfl, bif_npos rfl]
  rintro w115 rfl
  refine ⟨fun m x u => ∃ (q : Nat) (g : Mg), x = q ∧ q ≤ N ∧ m = N - q ∧ X u ∧ MgAt (Else mb pb) u mb pb g ∧ HInv h (fun a b => (a = pi ∧ b = pj) ∨ b * hk h + a < q) 0 g, ⟨N, 0, g3, rfl, by omega, rfl, hX, hM, H.congr fun i j _ => ⟨fun hh => by
      rcases hh with (hh | hh) | hh
      · exact hh.elim
      · exact .inl hh
      · exact .inl hh, fun hh => by
      rcases hh with hh | hh
      · exact .inr hh
      · omega⟩⟩, ?_⟩
  clear hX hM H
  rintro m w118 x ⟨q, g, rfl, hq, rfl, hX, hM, H⟩
  by_cases hqN : q < N
  · rw [bif_pos (by omega)]
    rintro w120 rfl
    replace hX := advq hX ((Tch.refl [] w118).drew)
    replace hM := hM.quiet ((Tch.refl [] w118).drew)
    generalize w118.drew = w120 at *
    refine get_all (bc hX.2.2.2.2) hlen ⟨by omega, by omega, ?_⟩
    obtain ⟨r1, r2⟩ := place (h := h) (p := q) (by omega)
    obtain ⟨e1, e2⟩ := place_int (h := h) (p := q) (by omega)
    rw [e1, e2]
    refine (piece_c w120 cs h (hh.quiet hX.2.2.2.2.tch) _ _ r1 r2).mono ?_
    rintro e w123 ⟨ra, rc, rfl, hR, t1⟩
    refine ⟨_, rfl, ?_⟩
    refine (takeH w123 mb pb g h _ 0 (hM.quiet t1) H _ _ r1 r2 ra _ rc hR).mono ?_
    rintro e w126 ⟨g', rfl, hM', H', t2⟩
    refine ⟨_, rfl, ?_⟩
    rw [bif_npos rfl]
    refine ⟨N - (q + 1), by omega, q + 1, g', by rw [wrap_i64 (by omega) (by omega)]; omega, by omega, rfl, adv (advq hX t1) t2, hM', H'.congr fun a b ha => ?_⟩
    have hdm := Nat.div_add_mod q (hk h)
    rw [Nat.mul_comm] at hdm
    constructor
    · rintro ((hh | hh) | ⟨rfl, rfl⟩)
      · exact .inl hh
      · exact .inr (by omega)
      · exact .inr (by omega)
    · rintro (hh | hh)
      · exact .inl (.inl hh)
      · by_cases he : b * hk h + a = q
        · refine .inr ?_
          subst he
          rw [Nat.add_comm, Nat.add_mul_mod_self_right, Nat.mod_eq_of_lt ha, Nat.add_mul_div_right _ _ (by omega), Nat.div_eq_of_lt ha]
          omega
        · exact .inl (.inr (by omega))
  · rw [bif_neg (by omega)]
    obtain rfl : q = N := by omega
    refine get_all (bc hX.2.2.2.2) hlen ?_
    refine (given_c w w118 cs h mb pb g _ 0 true hh hX.2.2.2.2.tch hwm.1 hwm.2 hM H).mono ?_
    rintro e w131 ⟨n', g', rfl, hM, H, t1, _, _, hmore, _⟩
    have hn' : n' = heps h := by
      rcases hmore rfl with h1 | ⟨i, hi, hno⟩
      · exact h1
      · refine Classical.byContradiction fun hne => hno (.inr (hall n' ?_ i hi))
        have := H.le
        omega
    replace hX := adv hX t1
    refine ⟨_, _, rfl, _, rfl, _, rfl, ?_⟩
    rw [cond_true, bif_pos (by rw [hn'])]
    refine get_all hX.2.1 rfl ?_
    have f2 := pastS H pl1 pl2 (by omega) ol
    refine (take_c w131 mb pb g' hM pi ((hf h + pj : Nat) : Int) qa _ qc _ hX.2.2.2.1 (by unfold I64; omega) (by unfold I64; omega)).mono ?_
    rintro e w138 ⟨rfl, hM2, t2⟩
    rw [f2]
    refine ⟨_, rfl, ?_⟩
    exact fin (by simp) (adv hX t2).2.2.2.2
end Go.Proofs.Ytjchneebdlncfaa.Mrg
