/-
  FRAMES OF PIECES AND WANTS: their bytes; contracts of the Encodes and of the document's.
  FRAMES OF WANTS, and the document's frames: contracts of the Encodes.
  READING A BATCH: what its bytes say, or the place at which they are wrong (plain functions).
  A FUNCTION WITH A RANGE OVER A FUNCTION IN ITS OUTERMOST SEQUENCE: what is asked of it, and that this is right.
  A FUNCTION THAT DEFERS A CALL OF A CLOSURE, AND THE CLOSURE THAT RECOVERS: what is asked of them, and that this is right.
  A CLOSURE THAT IS CALLED AS A DEFERRED CALL AND RECOVERS FIRST: what is asked of it, and that this is right.
  THE CODE of some functions of the given program, resolved, and proved to ask what the readable texts (d..) say; contracts c.. follow. Printed by a small program of mine.
  Own work. No macro, syntax, notation, axiom.
-/
import Derived.Test.YtjchneebdlncfaaDoorFrmPk9
import Derived.Test.YtjchneebdlncfaaDoorFrmPk10
import Derived.Test.YtjchneebdlncfaaDoorFrmPk6
import Derived.Test.YtjchneebdlncfaaDoorFrmPk3
import Derived.RangeFuncNested
import Derived.RangeFuncLeaves
import Derived.RecoverIn
import Derived.Test.YtjchneebdlncfaaDoorProg
namespace Go.Proofs.YtjchneebdlncfaaDoor.Lib
open Go Den Fn
open Go.RowKit (Below)
open Classical
set_option maxRecDepth 8000
set_option maxHeartbeats 4000000
def EpOk (n : Int) : Prop := 1 ≤ n ∧ n ≤ 1099511627776
instance (n : Int) : Decidable (EpOk n) := by unfold EpOk; infer_instance
def nameE (i n : Int) : Int := if i < 0 ∨ 16 ≤ i then 261 else if ¬ EpOk n then 262 else 0
theorem nameE_ok {i n : Int} (h : nameE i n = 0) : 0 ≤ i ∧ i < 16 ∧ EpOk n := by
  unfold nameE at h
  split at h
  · omega
  split at h
  · omega
  rename_i h1 h2
  exact ⟨by omega, by omega, Classical.byContradiction fun hh => h2 hh⟩
theorem epoch_c (n : Int) (w : World) : Calls Tryd.prog 64 #[.int .i64 n] w fun e w' => e = .returned (.bool (decide (EpOk n))) ∧ w' = w := by
  refine c64 _ ?_
  unfold d64
  by_cases h : 1 ≤ n
  · rw [bif_pos h]
    exact ⟨by rw [show decide (n ≤ 1099511627776) = decide (EpOk n) from decide_eq_decide.2 ⟨fun h2 => ⟨h, h2⟩, fun h2 => h2.2⟩], rfl⟩
  · rw [bif_neg h]
    exact ⟨by rw [decide_eq_false fun h2 => h h2.1], rfl⟩
theorem refEpoch_c (n : Int) (w : World) : Calls Tryd.prog 70 #[.int .i64 n] w fun e w' => e = .returned (.bool (decide (EpOk n))) ∧ w' = w := by
  refine c70 _ ?_
  unfold d70
  by_cases h : 1 ≤ n
  · rw [bif_pos h]
    exact ⟨by rw [show decide (n ≤ 1099511627776) = decide (EpOk n) from decide_eq_decide.2 ⟨fun h2 => ⟨h, h2⟩, fun h2 => h2.2⟩], rfl⟩
  · rw [bif_neg h]
    exact ⟨by rw [decide_eq_false fun h2 => h h2.1], rfl⟩
theorem named_c (i n : Int) (w : World) : Calls Tryd.prog 28 #[.int .i64 i, .int .i64 n] w fun e w' => e = .returned (.int .i64 (nameE i n)) ∧ w' = w := by
  refine c28 _ _ ?_
  unfold d28 nameE
  refine ⟨fun u => u = w ∧ ¬ (i < 0 ∨ 16 ≤ i), ?_, ?_⟩
  · by_cases h1 : i < 0
    · rw [bif_pos h1, if_pos (.inl h1)]; exact ⟨rfl, rfl⟩
    rw [bif_neg h1]
    by_cases h2 : 16 ≤ i
    · rw [bif_pos h2, if_pos (.inr h2)]; exact ⟨rfl, rfl⟩
    rw [bif_neg h2]
    exact ⟨rfl, fun h => h.elim h1 h2⟩
  rintro w3 ⟨rfl, h⟩
  rw [if_neg h]
  refine (epoch_c n w3).mono ?_
  rintro e w5 ⟨rfl, hw⟩
  rw [hw]
  refine ⟨_, rfl, ?_⟩
  by_cases he : EpOk n
  · rw [bif_npos he, if_neg (fun hh => hh he)]; exact ⟨rfl, rfl⟩
  · rw [bif_nneg he, if_pos he]; exact ⟨rfl, rfl⟩
theorem refValid_c (i n : Int) (w : World) : Calls Tryd.prog 36 #[.int .i64 i, .int .i64 n] w fun e w' => e = .returned (.int .i64 (nameE i n)) ∧ w' = w := by
  refine c36 _ _ ?_
  unfold d36 nameE
  refine ⟨fun u => u = w ∧ ¬ (i < 0 ∨ 16 ≤ i), ?_, ?_⟩
  · by_cases h1 : i < 0
    · rw [bif_pos h1, if_pos (.inl h1)]; exact ⟨rfl, rfl⟩
    rw [bif_neg h1]
    by_cases h2 : 16 ≤ i
    · rw [bif_pos h2, if_pos (.inr h2)]; exact ⟨rfl, rfl⟩
    rw [bif_neg h2]
    exact ⟨rfl, fun h => h.elim h1 h2⟩
  rintro w3 ⟨rfl, h⟩
  rw [if_neg h]
  refine (refEpoch_c n w3).mono ?_
  rintro e w5 ⟨rfl, hw⟩
  rw [hw]
  refine ⟨_, rfl, ?_⟩
  by_cases he : EpOk n
  · rw [bif_npos he, if_neg (fun hh => hh he)]; exact ⟨rfl, rfl⟩
  · rw [bif_nneg he, if_pos he]; exact ⟨rfl, rfl⟩
/-- The bytes of an input's number and an epoch. -/
def twoB (i n : Int) : List Int := uv i.toNat ++ uv n.toNat
theorem twoB_len {i n : Int} (h : nameE i n = 0) : (twoB i n).length ≤ 20 := by
  obtain ⟨h1, h2, h3, h4⟩ := nameE_ok h
  have a1 := (uv_len10 (n := i.toNat) (by omega)).2
  have a2 := (uv_len10 (n := n.toNat) (by omega)).2
  unfold twoB
  rw [List.length_append]
  omega
theorem twoB_bytes (i n : Int) : Bytes (twoB i n) := (uv_bytes _).append (uv_bytes _)
/-- A piece's frame, and the error. -/
noncomputable def pieceE (i n : Int) (l : List Tx) : List Int × Int := if nameE i n ≠ 0 then ([], nameE i n) else if (encB l).2 ≠ 0 then ([], (encB l).2) else (sealS 77 (twoB i n ++ (encB l).1), 0)
/-- What is asked for, as bytes; the first that is wrong. -/
def wantsG : List (Int × Int) → List Int × Int
  | [] => ([], 0)
  | k :: l => if nameE k.1 k.2 ≠ 0 then ([], nameE k.1 k.2) else if (wantsG l).2 ≠ 0 then wantsG l else (twoB k.1 k.2 ++ (wantsG l).1, 0)
def wantsE (l : List (Int × Int)) : List Int × Int := if 1024 < l.length then ([], 264) else if (wantsG l).2 ≠ 0 then ([], (wantsG l).2) else (sealS 87 (uv l.length ++ (wantsG l).1), 0)
theorem wantsG_good : ∀ {l : List (Int × Int)}, (∀ k ∈ l, nameE k.1 k.2 = 0) → wantsG l = ((l.map fun k => twoB k.1 k.2).flatten, 0)
  | [], _ => rfl
  | k :: l, h => by
    have ih := wantsG_good (l := l) fun x hx => h x (by simp [hx])
    unfold wantsG
    rw [if_neg (by simpa using h k (by simp)), ih, if_neg (by simp)]
    rfl
theorem wantsG_bad : ∀ {l : List (Int × Int)} {q : Nat} {k : Int × Int}, l[q]? = some k → (∀ x ∈ l.take q, nameE x.1 x.2 = 0) → nameE k.1 k.2 ≠ 0 → (wantsG l).2 = nameE k.1 k.2
  | [], q, k, h, _, _ => by simp at h
  | x :: l, 0, k, h, _, hk => by
    cases h
    unfold wantsG
    rw [if_pos hk]
  | x :: l, q + 1, k, h, hg, hk => by
    have ih := wantsG_bad (l := l) (q := q) (by simpa using h) (fun y hy => hg y (by simp [hy])) hk
    unfold wantsG
    rw [if_neg (by simpa using hg x (by simp)), if_pos (by rw [ih]; exact hk), ih]
theorem encB_len {l : List Tx} (hok : ∀ x ∈ l, x.ok) (h : (encB l).2 = 0) : (encB l).1.length ≤ 40000 := by
  have hg := (encB_zero l).1 h
  have hun := (uv_len10 (n := l.length) (by have := hg.1; omega)).2
  have hlen := encTxs_len hok hg.2
  have := hg.1
  rw [encB_good hg]
  show (uv l.length ++ encTxs l).length ≤ _
  rw [List.length_append]
  omega
theorem encB_bytes {l : List Tx} (h : (encB l).2 = 0) : Bytes (encB l).1 := by
  have hg := (encB_zero l).1 h
  rw [encB_good hg]
  refine (uv_bytes _).append ?_
  intro y hy
  obtain ⟨bs, hbs, hy⟩ := List.mem_flatten.1 hy
  obtain ⟨x, _, rfl⟩ := List.mem_map.1 hbs
  have hks : ∀ l : List (Int × Int), Bytes (encKs l) := fun l => (uv_bytes _).append fun y hy => by
    obtain ⟨bs, hbs, hy⟩ := List.mem_flatten.1 hy
    obtain ⟨k, _, rfl⟩ := List.mem_map.1 hbs
    exact keyB_bytes _ _ y hy
  have ha : Bytes ((x.args.map iv).flatten) := fun y hy => by
    obtain ⟨bs, hbs, hy⟩ := List.mem_flatten.1 hy
    obtain ⟨k, _, rfl⟩ := List.mem_map.1 hbs
    exact uv_bytes _ y hy
  have : Bytes (encTx x) := (uv_bytes _).append ((uv_bytes _).append (ha.append ((hks _).append (hks _))))
  exact this y hy
theorem BytesR.none {w w' : World} {k : Int} (ht : Tch [] w w') : BytesR w ([], k) (.returned (.tuple #[.slice none 0 0, .int .i64 k])) w' := ⟨_, 0, rfl, own_nil _ _ _ _, ht⟩
theorem wo_uint {w u : World} {b : Nat} {bs : List Int} (h : WO w u b bs) {n : Nat} (hn : n < 18446744073709551616) (hl : bs.length + 10 ≤ 140737488355328) {K : World → Prop} (hK : ∀ u', WO w u' b (bs ++ uv n) → K u') :
    Calls Tryd.prog 31 #[.pointer (some ⟨b, 0, none⟩), .int .u64 n] u fun e u' => e = .returned (.tuple #[]) ∧ K u' := by
  obtain ⟨h1, h2, a, h4⟩ := h
  refine (uint_c u b a bs n h4 hn hl).mono ?_
  rintro e u' ⟨rfl, hr⟩
  exact ⟨rfl, hK u' (WO.step h1 h2 h4 hr)⟩
theorem wo_raw {w u : World} {b : Nat} {bs ys : List Int} (h : WO w u b bs) {xa : Option Addr} {xn xc : Nat} (hx : RSl u 1 xa xn xc (u8 ys)) (hl : bs.length + xn ≤ 140737488355328) {K : World → Prop} (hK : ∀ u', WO w u' b (bs ++ ys) → K u') :
    Calls Tryd.prog 32 #[.pointer (some ⟨b, 0, none⟩), .slice xa xn xc] u fun e u' => e = .returned (.tuple #[]) ∧ K u' := by
  obtain ⟨h1, h2, a, h4⟩ := h
  refine (raw_c u b a bs ys xa xn xc h4 hx hl).mono ?_
  rintro e u' ⟨rfl, hr⟩
  exact ⟨rfl, hK u' (WO.step h1 h2 h4 hr)⟩
theorem wo_out {w u : World} {b : Nat} {bs : List Int} (h : WO w u b bs) (hl : bs.length ≤ 140737488355328) :
    Calls Tryd.prog 34 #[.pointer (some ⟨b, 0, none⟩)] u fun e w' => ∃ a' c', e = .returned (.slice a' bs.length c') ∧ RSl w' 1 a' bs.length c' (u8 bs) ∧ Tch [] w w' := by
  obtain ⟨h1, h2, a, h4⟩ := h
  refine (out_c u b a bs h4 hl).mono ?_
  rintro e w' ⟨a', c', rfl, ho, ht⟩
  exact ⟨a', c', rfl, own_rsl ho ones_ints, h1.trans ht (by simp)⟩
theorem wo_new (w : World) : Calls Tryd.prog 30 #[] w fun e w' => e = .returned (.pointer (some ⟨w.heap.size, 0, none⟩)) ∧ WO w w' w.heap.size [] := by
  refine (new_c w).mono ?_
  rintro e w' ⟨rfl, hW, ht⟩
  exact ⟨rfl, ht, Nat.le_refl _, none, hW⟩
theorem WO.quiet {w u u' : World} {b : Nat} {bs : List Int} (h : WO w u b bs) (ht : Tch [] u u') : WO w u' b bs := ⟨h.1.trans ht (by simp), h.2.1, h.2.2.elim fun a ha => ⟨a, ha.quiet ht⟩⟩
theorem OwnO.bytesR {w w1 w' : World} {r : List Int} {a : Option Addr} {c : Nat} (ht : Tch [] w w1) (ho : w'.ownsRow w1.heap.size 5 1 (.slice a r.length c) r.length (u8 r)) (h : Tch [] w1 w') : BytesR w (r, 0) (.returned (.tuple #[.slice a r.length c, .int .i64 0])) w' :=
  ⟨a, c, rfl, own_base ho ht.size, ht.trans h (by simp)⟩
theorem encPiece_c {F : Nat → Prop} (w : World) (i n : Int) (a : Option Addr) (tn tc : Nat) (l : List Tx) (h : BatchV F w a tn tc l) (hT : Tab w) :
    Calls Tryd.prog 12 #[.agg #[.int .i64 i, .int .i64 n, .slice a tn tc]] w (BytesR w (pieceE i n l)) := by
  refine c12 _ ?_
  unfold d12
  rintro w1 rfl
  have hP : Blk _ _ [Value.int .i64 i, .int .i64 n, .slice a tn tc] := Blk.fresh w (cs := [Value.int .i64 i, .int .i64 n, .slice a tn tc]) 37 rfl
  have t1 := (Tch.refl [] w).alloc (.cells #[Value.int .i64 i, .int .i64 n, .slice a tn tc] 37)
  generalize w.alloc (.cells #[Value.int .i64 i, .int .i64 n, .slice a tn tc] 37) = w1 at *
  generalize w.heap.size = pb at *
  refine ⟨i, by rw [add_mk]; exact hP.cell 0, n, by rw [add_mk]; exact hP.cell 1, ?_⟩
  refine (named_c i n w1).mono ?_
  rintro e w5 ⟨rfl, hw⟩
  rw [hw]
  clear hw
  refine ⟨_, rfl, ?_⟩
  unfold pieceE
  by_cases hn : nameE i n = 0
  rotate_left
  · rw [bif_nneg hn, if_pos hn]
    exact BytesR.none t1
  rw [bif_npos hn, if_neg (by simpa using hn)]
  refine ⟨a, tn, tc, by rw [add_mk]; exact hP.cell 2, ?_⟩
  refine (encode_c w1 a tn tc l (h.quiet t1)).mono ?_
  rintro e w9 ⟨ea, ec, rfl, heo, t9⟩
  refine ⟨_, _, _, _, rfl, _, _, _, rfl, _, rfl, ?_⟩
  have q9 := t1.trans t9 (by simp)
  by_cases he : (encB l).2 = 0
  rotate_left
  · rw [bif_nneg he, if_pos he]
    exact BytesR.none q9
  rw [bif_npos he, if_neg (by simpa using he)]
  have hel := encB_len h.ok he
  have htl := twoB_len hn
  obtain ⟨hi0, hi1, hn0, hn1⟩ := nameE_ok hn
  have hP9 := hP.tch t9 (by simp)
  refine (wo_new w9).mono ?_
  rintro e w15 ⟨rfl, hO⟩
  refine ⟨_, rfl, i, by rw [add_mk]; exact (hP9.tch hO.1 (by simp)).cell 0, ?_⟩
  rw [wrap_u64 (by omega) (by omega)]
  have hu1 := (uv_len10 (n := i.toNat) (by omega)).2
  have hu2 := (uv_len10 (n := n.toNat) (by omega)).2
  rw [show (i : Int) = ((i.toNat : Nat) : Int) by omega]
  refine wo_uint hO (by omega) (by simp) fun w19 hO => ?_
  refine ⟨n, by rw [add_mk]; exact (hP9.tch hO.1 (by simp)).cell 1, ?_⟩
  rw [wrap_u64 (by omega) (by omega)]
  rw [show (n : Int) = ((n.toNat : Nat) : Int) by omega]
  refine wo_uint hO (by omega) (by rw [List.nil_append]; omega) fun w22 hO => ?_
  refine wo_raw hO ((own_rsl heo ones_ints).tch hO.1 (fun _ _ h => by cases h)) (by rw [List.nil_append, List.length_append]; omega) fun w24 hO => ?_
  rw [List.nil_append] at hO
  refine (wo_out hO (by simp only [List.length_append]; omega)).mono ?_
  rintro e w26 ⟨oa, oc, rfl, hor, t26⟩
  refine ⟨_, _, _, rfl, ?_⟩
  have q26 := q9.trans t26 (by simp)
  refine (seal_c w26 77 (by omega) oa _ oc _ hor (((uv_bytes _).append (uv_bytes _)).append (encB_bytes he)) (by simp only [List.length_append]; omega) (hT.since q26)).mono ?_
  rintro e w29 ⟨sa, sc, rfl, hso, t29⟩
  refine ⟨_, _, _, rfl, ?_⟩
  have e1 : ((i.toNat : Nat) : Int).toNat = i.toNat := by omega
  have e2 : ((n.toNat : Nat) : Int).toNat = n.toNat := by omega
  unfold twoB
  rw [e1, e2]
  exact OwnO.bytesR q26 hso t29
end Go.Proofs.YtjchneebdlncfaaDoor.Lib
namespace Go.Proofs.YtjchneebdlncfaaDoor.Lib
open Go Den Fn
open Go.RowKit (Below)
open Classical
set_option maxRecDepth 8000
set_option maxHeartbeats 4000000
theorem zcWant : zc Tryd.prog 59 = kC (0, 0) := by kernel_rfl
def wB (k : Int × Int) : List Int := twoB k.1 k.2
theorem wB_flat : ∀ {l : List (Int × Int)}, (∀ k ∈ l, nameE k.1 k.2 = 0) → ((l.map wB).flatten).length ≤ 20 * l.length
  | [], _ => by simp
  | k :: l, h => by
    have ih := wB_flat (l := l) fun x hx => h x (by simp [hx])
    have := twoB_len (h k (by simp))
    simp only [List.map_cons, List.flatten_cons, List.length_append, List.length_cons]
    show (twoB k.1 k.2).length + _ ≤ _
    omega
theorem wB_bytes (l : List (Int × Int)) : Bytes ((l.map wB).flatten) := fun y hy => by
  obtain ⟨bs, hbs, hy⟩ := List.mem_flatten.1 hy
  obtain ⟨k, _, rfl⟩ := List.mem_map.1 hbs
  exact twoB_bytes _ _ y hy
theorem wantsE_big {l : List (Int × Int)} (h : 1024 < l.length) : wantsE l = ([], 264) := by unfold wantsE; rw [if_pos h]
theorem wantsE_bad {l : List (Int × Int)} (hn : ¬ 1024 < l.length) {q : Nat} {k : Int × Int} (h : l[q]? = some k) (hg : ∀ x ∈ l.take q, nameE x.1 x.2 = 0) (hk : nameE k.1 k.2 ≠ 0) : wantsE l = ([], nameE k.1 k.2) := by
  unfold wantsE
  rw [if_neg hn, wantsG_bad h hg hk, if_pos hk]
theorem wantsE_good {l : List (Int × Int)} (hn : ¬ 1024 < l.length) (hg : ∀ x ∈ l, nameE x.1 x.2 = 0) : wantsE l = (sealS 87 (uv l.length ++ (l.map wB).flatten), 0) := by
  unfold wantsE
  rw [if_neg hn, wantsG_good hg, if_neg (by simp)]
  rfl
theorem take_snoc {l : List (Int × Int)} {q : Nat} (h : q < l.length) : ∃ k, l[q]? = some k ∧ l.take (q + 1) = l.take q ++ [k] ∧ k ∈ l := ⟨l[q], List.getElem?_eq_getElem h, List.take_succ_eq_append_getElem h, List.getElem_mem h⟩
theorem WX.of {w u u' : World} {b : Nat} {bs : List Int} {cs : List Value} (h : WO w u b bs) (t : Tch [] u u') (hB : Blk u' u.heap.size cs) : WX w u' b bs u.heap.size cs := by
  obtain ⟨h1, h2, a, h4⟩ := h
  refine ⟨h1.trans t (by simp), h2, h4.lt, a, h4.quiet t, fun hm => ?_, hB⟩
  rcases List.mem_cons.1 hm with e | hm
  · have := h4.lt; omega
  · have := h4.row _ hm; omega
theorem WX.blk {w u : World} {b xb : Nat} {bs : List Int} {cs : List Value} (h : WX w u b bs xb cs) : Blk u xb cs := h.2.2.2.elim fun _ h => h.2.2
theorem two_eq {i n : Int} (h : nameE i n = 0) : ∃ a b : Nat, i = a ∧ n = b ∧ a < 16 ∧ b ≤ 1099511627776 ∧ twoB i n = uv a ++ uv b ∧ (uv a).length ≤ 10 ∧ (uv b).length ≤ 10 := by
  obtain ⟨h0, h1, h2, h3⟩ := nameE_ok h
  exact ⟨i.toNat, n.toNat, by omega, by omega, by omega, by omega, rfl, (uv_len10 (by omega)).2, (uv_len10 (by omega)).2⟩
theorem encWants_c (w : World) (a : Option Addr) (n c : Nat) (l : List (Int × Int)) (hr : RSl w 2 a n c (rows kC l)) (hT : Tab w) :
    Calls Tryd.prog 15 #[.slice a n c] w (BytesR w (wantsE l)) := by
  have hn : l.length = n := hr.count kC_len (by omega)
  refine c15 _ _ _ ?_
  unfold d15
  by_cases hbig : 1024 < n
  · rw [bif_pos (by omega), wantsE_big (by omega)]
    exact BytesR.none (Tch.refl _ _)
  rw [bif_neg (by omega)]
  refine (wo_new w).mono ?_
  rintro e w2 ⟨rfl, hO⟩
  refine ⟨_, rfl, ?_⟩
  rw [wrap_u64 (by omega) (by omega)]
  have un10 := (uv_len10 (n := n) (by omega)).2
  refine wo_uint hO (by omega) (by simp) fun w5 hO => ?_
  refine ⟨fun m x u => ∃ q : Nat, x = q ∧ q ≤ n ∧ m = n - q ∧ (∀ k ∈ l.take q, nameE k.1 k.2 = 0) ∧ WO w u w.heap.size (uv n ++ ((l.take q).map wB).flatten), ⟨n, 0, rfl, by omega, rfl, by simp, by simpa using hO⟩, ?_⟩
  clear hO
  rintro m w8 x ⟨q, rfl, hq, rfl, hg, hO⟩
  have hfl := wB_flat hg
  rw [List.length_take] at hfl
  by_cases hlt : q < n
  · rw [bif_pos (by omega)]
    obtain ⟨k, hk, htk, hkm⟩ := take_snoc (l := l) (q := q) (by omega)
    refine ⟨by omega, by omega, ?_⟩
    rw [Int.toNat_natCast]
    refine (hr.tch hO.1 (fun _ _ h => by cases h)).elem kC_len (by omega) hk ?_
    refine var_init (n := 2) (by rw [zcWant]; rfl) rfl kC_one fun w12 w13 hB t13 s13 => ?_
    refine ⟨k.1, by rw [add_mk]; exact hB.cell 0, k.2, by rw [add_mk]; exact hB.cell 1, ?_⟩
    refine (named_c k.1 k.2 w13).mono ?_
    rintro e w17 ⟨rfl, hw⟩
    rw [hw]
    clear hw
    refine ⟨_, rfl, ?_⟩
    have hO8 := hO
    replace hO := hO.quiet t13
    by_cases hf : nameE k.1 k.2 = 0
    rotate_left
    · rw [bif_nneg hf, wantsE_bad (by omega) hk hg hf]
      exact BytesR.none hO.1
    rw [bif_npos hf]
    have hl0 : (uv n ++ ((l.take q).map wB).flatten).length ≤ 10 + 20 * 1024 := by rw [List.length_append]; omega
    have hX := WX.of hO8 t13 hB
    obtain ⟨k1, k2⟩ := k
    obtain ⟨x1, x2, rfl, rfl, hx1, hx2, htw, hu1, hu2⟩ := two_eq hf
    simp only at hX hB ⊢
    refine ⟨x1, by rw [add_mk]; exact hX.blk.cell 0, ?_⟩
    rw [wrap_u64 (by omega) (by omega)]
    refine wx_uint hX (by omega) (by omega) fun w21 hX => ?_
    refine ⟨x2, by rw [add_mk]; exact hX.blk.cell 1, ?_⟩
    rw [wrap_u64 (by omega) (by omega)]
    refine wx_uint hX (by omega) (by rw [List.length_append]; omega) fun w24 hX => ?_
    refine ⟨n - (q + 1), by omega, q + 1, by rw [wrap_i64 (by omega) (by omega)]; omega, by omega, rfl, fun y hy => ?_, ?_⟩
    · rw [htk] at hy
      rcases List.mem_append.1 hy with hy | hy
      · exact hg y hy
      · rw [List.mem_singleton.1 hy]; exact hf
    · have := hX.out
      rw [htk, List.map_append, List.flatten_append]
      have e : (List.map wB [((x1 : Int), (x2 : Int))]).flatten = uv x1 ++ uv x2 := by simpa [wB] using htw
      rw [e]
      simpa only [List.append_assoc] using this
  · rw [bif_neg (by omega)]
    rw [List.take_of_length_le (by omega)] at hg hO hfl
    rw [wantsE_good (by omega) hg, hn]
    refine (wo_out hO (by rw [List.length_append]; omega)).mono ?_
    rintro e w27 ⟨oa, oc, rfl, hor, t27⟩
    refine ⟨_, _, _, rfl, ?_⟩
    refine (seal_c w27 87 (by omega) oa _ oc _ hor ((uv_bytes _).append (wB_bytes _)) (by rw [List.length_append]; omega) (hT.since t27)).mono ?_
    rintro e w30 ⟨sa, sc, rfl, hso, t30⟩
    exact ⟨_, _, _, rfl, OwnO.bytesR t27 hso t30⟩
theorem refTwo_c (w : World) (i n : Int) (h : nameE i n = 0) : Calls Tryd.prog 39 #[.int .i64 i, .int .i64 n] w (OwnO w (twoB i n)) := by
  obtain ⟨x1, x2, rfl, rfl, hx1, hx2, htw, hu1, hu2⟩ := two_eq h
  refine c39 _ _ ?_
  unfold d39
  rw [wrap_u64 (by omega) (by omega), wrap_u64 (by omega) (by omega), htw]
  refine (refUint_c w x1 (by omega)).mono ?_
  rintro e w3 ⟨a, c, rfl, ho, t3⟩
  refine ⟨_, _, _, rfl, ?_⟩
  refine (refUint_c w3 x2 (by omega)).mono ?_
  rintro e w6 ⟨b, d, rfl, ho2, t6⟩
  refine ⟨_, _, _, rfl, ?_⟩
  refine own_app t3 ho t6 (own_rsl ho2 ones_ints) (by omega) fun a' c' w9 ho' t9 => ?_
  refine ⟨a', c', ?_, ?_, t9⟩
  · rw [List.length_append]
  · rw [List.length_append]; exact ho'
theorem refEncPiece_c {F : Nat → Prop} (w : World) (i n : Int) (a : Option Addr) (tn tc : Nat) (l : List Tx) (h : BatchV F w a tn tc l) :
    Calls Tryd.prog 14 #[.agg #[.int .i64 i, .int .i64 n, .slice a tn tc]] w (BytesR w (pieceE i n l)) := by
  refine c14 _ ?_
  unfold d14
  rintro w1 rfl
  have hP : Blk _ _ [Value.int .i64 i, .int .i64 n, .slice a tn tc] := Blk.fresh w (cs := [Value.int .i64 i, .int .i64 n, .slice a tn tc]) 37 rfl
  have t1 := (Tch.refl [] w).alloc (.cells #[Value.int .i64 i, .int .i64 n, .slice a tn tc] 37)
  generalize w.alloc (.cells #[Value.int .i64 i, .int .i64 n, .slice a tn tc] 37) = w1 at *
  generalize w.heap.size = pb at *
  refine ⟨i, by rw [add_mk]; exact hP.cell 0, n, by rw [add_mk]; exact hP.cell 1, ?_⟩
  refine (refValid_c i n w1).mono ?_
  rintro e w5 ⟨rfl, hw⟩
  rw [hw]
  clear hw
  refine ⟨_, rfl, ?_⟩
  unfold pieceE
  by_cases hn : nameE i n = 0
  rotate_left
  · rw [bif_nneg hn, if_pos hn]
    exact BytesR.none t1
  rw [bif_npos hn, if_neg (by simpa using hn)]
  refine ⟨a, tn, tc, by rw [add_mk]; exact hP.cell 2, ?_⟩
  refine (refEncode_c w1 a tn tc l (h.quiet t1)).mono ?_
  rintro e w9 ⟨ea, ec, rfl, heo, t9⟩
  refine ⟨_, _, _, _, rfl, _, _, _, rfl, _, rfl, ?_⟩
  have q9 := t1.trans t9 (by simp)
  by_cases he : (encB l).2 = 0
  rotate_left
  · rw [bif_nneg he, if_pos he]
    exact BytesR.none q9
  rw [bif_npos he, if_neg (by simpa using he)]
  have hel := encB_len h.ok he
  have htl := twoB_len hn
  have hP9 := hP.tch t9 (by simp)
  refine ⟨i, by rw [add_mk]; exact hP9.cell 0, n, by rw [add_mk]; exact hP9.cell 1, ?_⟩
  refine (refTwo_c w9 i n hn).mono ?_
  rintro e w17 ⟨ta, tc', rfl, hto, t17⟩
  refine ⟨_, _, _, rfl, ?_⟩
  have hen := (own_rsl heo ones_ints).tch t17 (fun _ _ h => by cases h)
  refine own_app (w := w9) t17 hto (Tch.refl _ _) hen (by omega) fun a' c' w20 ho' t20 => ?_
  have hor := own_rsl ho' ones_ints
  refine (refSeal_c w20 77 (by omega) a' _ c' (twoB i n ++ (encB l).1) hor ((twoB_bytes _ _).append (encB_bytes he)) (by omega)).mono ?_
  rintro e w23 ⟨sa, sc, rfl, hso, t23⟩
  exact ⟨_, _, _, rfl, OwnO.bytesR (q9.trans t20 (by simp)) hso t23⟩
theorem refEncWants_c (w : World) (a : Option Addr) (n c : Nat) (l : List (Int × Int)) (hr : RSl w 2 a n c (rows kC l)) :
    Calls Tryd.prog 16 #[.slice a n c] w (BytesR w (wantsE l)) := by
  have hn : l.length = n := hr.count kC_len (by omega)
  refine c16 _ _ _ ?_
  unfold d16
  by_cases hbig : 1024 < n
  · rw [bif_pos (by omega), wantsE_big (by omega)]
    exact BytesR.none (Tch.refl _ _)
  rw [bif_neg (by omega), wrap_u64 (by omega) (by omega)]
  have un10 := (uv_len10 (n := n) (by omega)).2
  refine (refUint_c w n (by omega)).mono ?_
  rintro e w2 ⟨oa, oc, rfl, ho, t2⟩
  refine ⟨_, _, _, rfl, fun m x xn xc i u => ∃ (q : Nat) (out : List Int), i = q ∧ q ≤ n ∧ m = n - q ∧ out = uv n ++ ((l.take q).map wB).flatten ∧ xn = out.length ∧ (∀ k ∈ l.take q, nameE k.1 k.2 = 0) ∧ u.ownsRow w.heap.size 5 1 (.slice x xn xc) xn (u8 out) ∧ Tch [] w u,
    ⟨n, 0, uv n, rfl, by omega, rfl, by simp, rfl, by simp, ho, t2⟩, ?_⟩
  clear ho t2
  rintro m w6 x xn xc i ⟨q, out, rfl, hq, rfl, hout, rfl, hg, ho, ht⟩
  have hfl := wB_flat hg
  rw [List.length_take] at hfl
  have hol : out.length ≤ 10 + 20 * 1024 := by rw [hout, List.length_append]; omega
  by_cases hlt : q < n
  · rw [bif_pos (by omega)]
    rintro w9 rfl
    obtain ⟨k, hk, htk, hkm⟩ := take_snoc (l := l) (q := q) (by omega)
    have td := (Tch.refl [] w6).drew
    have ht9 := ht.trans td (by simp)
    have cell : ∀ {u : World}, Tch [] w u → ∀ (j : Nat) (v : Int), (kC k)[j]? = some (.int .i64 v) → ∀ {K : Int → Prop}, K v → optK a fun a10 => ∃ x11 : Int, World.cell? u (Addr.add (Addr.add a10 (q * 2)) j) = some (.int .i64 x11) ∧ K x11 := fun {u} hu j v hv {K} hK => by
      obtain ⟨yb, yo, rfl, hcv⟩ := RSl.elem' (sz := 2) (hr.tch hu (fun _ _ h => by cases h)) kC_len (by omega) hk
      exact ⟨v, by rw [add_mk, add_mk]; exact cells_get hcv hv, hK⟩
    refine ⟨by omega, by omega, ?_⟩
    rw [Int.toNat_natCast]
    refine cell ht9 0 k.1 rfl ⟨by omega, by omega, cell ht9 1 k.2 rfl ?_⟩
    refine (refValid_c k.1 k.2 _).mono ?_
    rintro e w15 ⟨rfl, hw⟩
    rw [hw]
    clear hw
    refine ⟨_, rfl, ?_⟩
    by_cases hf : nameE k.1 k.2 = 0
    rotate_left
    · rw [bif_nneg hf, wantsE_bad (by omega) hk hg hf]
      exact BytesR.none ht9
    rw [bif_npos hf]
    rintro w17 rfl
    have td2 := td.trans (Tch.refl [] w6.drew).drew (by simp)
    have ht17 := ht.trans td2 (by simp)
    refine ⟨by omega, by omega, cell ht17 0 k.1 rfl ⟨by omega, by omega, cell ht17 1 k.2 rfl ?_⟩⟩
    refine (refTwo_c _ k.1 k.2 hf).mono ?_
    rintro e w23 ⟨ta, tc', rfl, hto, t23⟩
    have htl := twoB_len hf
    refine ⟨_, _, _, rfl, ?_⟩
    refine own_app ht ho (td2.trans t23 (by simp)) (own_rsl hto ones_ints) (by omega) fun a' c' w26 ho' t26 => ?_
    refine ⟨n - (q + 1), by omega, q + 1, out ++ twoB k.1 k.2, by rw [wrap_i64 (by omega) (by omega)]; omega, by omega, rfl, ?_, by rw [List.length_append], fun y hy => ?_, ho', t26⟩
    · rw [hout, htk, List.map_append, List.flatten_append]
      simp [wB]
    · rw [htk] at hy
      rcases List.mem_append.1 hy with hy | hy
      · exact hg y hy
      · rw [List.mem_singleton.1 hy]; exact hf
  · rw [bif_neg (by omega)]
    rw [List.take_of_length_le (by omega)] at hg hout
    rw [wantsE_good (by omega) hg, hn, ← hout]
    refine (refSeal_c w6 87 (by omega) x _ xc out (own_rsl ho ones_ints) (by rw [hout]; exact (uv_bytes _).append (wB_bytes _)) (by omega)).mono ?_
    rintro e w30 ⟨sa, sc, rfl, hso, t30⟩
    exact ⟨_, _, _, rfl, OwnO.bytesR ht hso t30⟩
end Go.Proofs.YtjchneebdlncfaaDoor.Lib
namespace Go.Proofs.YtjchneebdlncfaaDoor.Lib
open Go Den
open Classical
set_option maxRecDepth 8000
/-- The key at a place. -/
def kOf (bs : List Int) (p : Nat) : Int × Int := ((fromB ((bs.drop p).take 10)).1, (fromB ((bs.drop p).take 10)).2.1)
def clash (acc : List (Int × Int)) (k : Int × Int) : Prop := ∃ l, acc.getLast? = some l ∧ 0 ≤ cmpK l k
/-- So many keys. -/
noncomputable def kS (bs : List Int) : Nat → Nat → List (Int × Int) → List (Int × Int) × Nat × Int
  | 0, p, acc => (acc, p, 0)
  | m + 1, p, acc => if (rRaw bs 10 p 0).2.2 ≠ 0 then ([], p, (rRaw bs 10 p 0).2.2) else if clash acc (kOf bs p) then ([], p, 65) else kS bs m (p + 10) (acc ++ [kOf bs p])
noncomputable def keysS (bs : List Int) (p : Nat) : List (Int × Int) × Nat × Int :=
  if (rUpto bs 16 p 0).2.2 ≠ 0 then ([], p, (rUpto bs 16 p 0).2.2) else kS bs (rUpto bs 16 p 0).1 (rUpto bs 16 p 0).2.1 []
/-- So many numbers. -/
def aS (bs : List Int) : Nat → Nat → List Int → List Int × Nat × Int
  | 0, p, acc => (acc, p, 0)
  | m + 1, p, acc => if (rInt bs p 0).2.2 ≠ 0 then ([], p, (rInt bs p 0).2.2) else aS bs m (rInt bs p 0).2.1 (acc ++ [(rInt bs p 0).1])
def Tx.zero : Tx := ⟨0, [], [], []⟩
noncomputable def tx5 (u : Nat) (A : List Int) (R : List (Int × Int)) (W : List (Int × Int) × Nat × Int) : Tx × Nat × Int := if W.2.2 ≠ 0 then (.zero, W.2) else (⟨(u : Int), A, R, W.1⟩, W.2.1, 0)
noncomputable def tx4 (bs : List Int) (u : Nat) (A : List Int) (R : List (Int × Int) × Nat × Int) : Tx × Nat × Int := if R.2.2 ≠ 0 then (.zero, R.2) else tx5 u A R.1 (keysS bs R.2.1)
noncomputable def tx3 (bs : List Int) (u : Nat) (A : List Int × Nat × Int) : Tx × Nat × Int := if A.2.2 ≠ 0 then (.zero, A.2) else tx4 bs u A.1 (keysS bs A.2.1)
noncomputable def tx2 (bs : List Int) (u : Nat) (v : Nat × Nat × Int) : Tx × Nat × Int := if v.2.2 ≠ 0 then (.zero, v.2) else tx3 bs u (aS bs v.1 v.2.1 [])
noncomputable def tx1 (bs : List Int) (u : Nat × Nat × Int) : Tx × Nat × Int := if u.2.2 ≠ 0 then (.zero, u.2) else tx2 bs u.1 (rUpto bs 16 u.2.1 0)
noncomputable def txS (bs : List Int) (p : Nat) : Tx × Nat × Int := tx1 bs (rUpto bs 63 p 0)
noncomputable def txsS (bs : List Int) : Nat → Nat → List Tx → List Tx × Nat × Int
  | 0, p, acc => (acc, p, 0)
  | m + 1, p, acc => if (txS bs p).2.2 ≠ 0 then ([], (txS bs p).2.1, (txS bs p).2.2) else txsS bs m (txS bs p).2.1 (acc ++ [(txS bs p).1])
/-- A batch's bytes: the batch, the place, the error. -/
noncomputable def dec2 (bs : List Int) (T : List Tx × Nat × Int) : List Tx × Nat × Int := if T.2.2 ≠ 0 then ([], T.2) else if T.2.1 < bs.length then ([], T.2.1, 11) else (T.1, 0, 0)
noncomputable def dec1 (bs : List Int) (u : Nat × Nat × Int) : List Tx × Nat × Int := if u.2.2 ≠ 0 then ([], u.2) else dec2 bs (txsS bs u.1 u.2.1 [])
noncomputable def decS (bs : List Int) : List Tx × Nat × Int := dec1 bs (rUpto bs 64 0 0)

theorem rUpto_err {bs : List Int} {most p : Nat} (h : (rUpto bs most p 0).2.2 ≠ 0) : (rUpto bs most p 0).1 = 0 ∧ (rUpto bs most p 0).2.1 = p := by
  unfold rUpto at h ⊢
  rw [if_neg (by simp)] at h ⊢
  by_cases h1 : (number (bs.drop p)).2.2 = 0
  · rw [if_neg (by simpa using h1)] at h ⊢
    by_cases h2 : most < (number (bs.drop p)).1
    · rw [if_pos h2]; exact ⟨rfl, rfl⟩
    · rw [if_neg h2] at h; simp at h
  · rw [if_pos h1]; exact ⟨rfl, rfl⟩
theorem rInt_err {bs : List Int} {p : Nat} (h : (rInt bs p 0).2.2 ≠ 0) : (rInt bs p 0).2.1 = p := (rUpto_err (most := 18446744073709551615) h).2
theorem rInt_le {bs : List Int} (hB : Bytes bs) {p : Nat} (hp : p ≤ bs.length) : (rInt bs p 0).2.1 ≤ bs.length ∧ I64 (rInt bs p 0).1 := by
  have := rUpto_le hB (most := 18446744073709551615) (e := 0) hp
  exact ⟨this.1, unfold_range (by have := this.2.2; omega)⟩
theorem raw10 (bs : List Int) (p : Nat) : (p + 10 ≤ bs.length ∧ rRaw bs 10 p 0 = ((bs.drop p).take 10, p + 10, 0)) ∨ (¬ p + 10 ≤ bs.length ∧ (rRaw bs 10 p 0).1 = [] ∧ (rRaw bs 10 p 0).2.1 = p ∧ (rRaw bs 10 p 0).2.2 ≠ 0) := by
  rcases rRaw_cases bs 10 p 0 with ⟨_, h2, h3⟩ | ⟨h1, h2, h3, h4, _⟩
  · exact .inl ⟨h2, h3⟩
  · exact .inr ⟨fun h => h1 ⟨rfl, h⟩, h2, h3, h4⟩
theorem kOf_ok {bs : List Int} (hB : Bytes bs) (p : Nat) : KeyOk (kOf bs p).1 ∧ I64 (kOf bs p).2 := fromB_range ((hB.drop p).take 10)
theorem kS_ok {bs : List Int} (hB : Bytes bs) : ∀ {m p : Nat} {acc : List (Int × Int)}, p ≤ bs.length → (∀ k ∈ acc, kI k) → (kS bs m p acc).2.1 ≤ bs.length ∧ (∀ k ∈ (kS bs m p acc).1, kI k) ∧ (kS bs m p acc).1.length ≤ acc.length + m
  | 0, p, acc, hp, ha => ⟨hp, ha, by simp [kS]⟩
  | m + 1, p, acc, hp, ha => by
    unfold kS
    split
    · exact ⟨hp, by simp, by simp⟩
    · rename_i h1
      split
      · exact ⟨hp, by simp, by simp⟩
      · have hk := kOf_ok hB p
        have h10 : p + 10 ≤ bs.length := by
          rcases raw10 bs p with h | h
          · exact h.1
          · exact absurd h.2.2.2 h1
        have := kS_ok hB (m := m) (p := p + 10) (acc := acc ++ [kOf bs p]) h10 (fun k hm => by
          rcases List.mem_append.1 hm with hm | hm
          · exact ha k hm
          · rw [List.mem_singleton.1 hm]
            have := hk.1
            unfold KeyOk at this
            exact ⟨by unfold I64; omega, hk.2⟩)
        refine ⟨this.1, this.2.1, ?_⟩
        have := this.2.2
        rw [List.length_append, List.length_singleton] at this
        omega
theorem keysS_ok {bs : List Int} (hB : Bytes bs) {p : Nat} (hp : p ≤ bs.length) : (keysS bs p).2.1 ≤ bs.length ∧ (∀ k ∈ (keysS bs p).1, kI k) ∧ (keysS bs p).1.length ≤ 16 := by
  have := rUpto_le hB (most := 16) (e := 0) hp
  unfold keysS
  split
  · exact ⟨hp, by simp, by simp⟩
  · have h2 := kS_ok hB (m := (rUpto bs 16 p 0).1) (p := (rUpto bs 16 p 0).2.1) (acc := []) this.1 (by simp)
    refine ⟨h2.1, h2.2.1, ?_⟩
    have := h2.2.2
    simp at this
    omega
theorem aS_ok {bs : List Int} (hB : Bytes bs) : ∀ {m p : Nat} {acc : List Int}, p ≤ bs.length → (∀ v ∈ acc, I64 v) → (aS bs m p acc).2.1 ≤ bs.length ∧ (∀ v ∈ (aS bs m p acc).1, I64 v) ∧ (aS bs m p acc).1.length ≤ acc.length + m
  | 0, p, acc, hp, ha => ⟨hp, ha, by simp [aS]⟩
  | m + 1, p, acc, hp, ha => by
    unfold aS
    split
    · exact ⟨hp, by simp, by simp⟩
    · obtain ⟨h1, h2⟩ := rInt_le hB hp
      have := aS_ok hB (m := m) (p := (rInt bs p 0).2.1) (acc := acc ++ [(rInt bs p 0).1]) h1 (fun v hm => by
        rcases List.mem_append.1 hm with hm | hm
        · exact ha v hm
        · rw [List.mem_singleton.1 hm]; exact h2)
      refine ⟨this.1, this.2.1, ?_⟩
      have := this.2.2
      rw [List.length_append, List.length_singleton] at this
      omega
theorem Tx.zero_ok : Tx.zero.ok := ⟨by unfold I64; decide, by simp [Tx.zero], by simp [Tx.zero], by simp [Tx.zero]⟩
theorem txS_ok {bs : List Int} (hB : Bytes bs) {p : Nat} (hp : p ≤ bs.length) : (txS bs p).2.1 ≤ bs.length ∧ (txS bs p).1.ok := by
  have h1 := rUpto_le hB (most := 63) (e := 0) hp
  have h2 := rUpto_le hB (most := 16) (e := 0) h1.1
  unfold txS
  generalize rUpto bs 63 p 0 = u1 at *
  generalize hu2 : rUpto bs 16 u1.2.1 0 = u2 at *
  unfold tx1
  rw [hu2]
  split
  · exact ⟨h1.1, Tx.zero_ok⟩
  have h3 := aS_ok hB (m := u2.1) (acc := []) h2.1 (by simp)
  unfold tx2
  generalize aS bs u2.1 u2.2.1 [] = A at *
  split
  · exact ⟨h2.1, Tx.zero_ok⟩
  have h4 := keysS_ok hB h3.1
  unfold tx3
  generalize keysS bs A.2.1 = K1 at *
  split
  · exact ⟨h3.1, Tx.zero_ok⟩
  have h5 := keysS_ok hB h4.1
  unfold tx4
  generalize keysS bs K1.2.1 = K2 at *
  split
  · exact ⟨h4.1, Tx.zero_ok⟩
  unfold tx5
  split
  · exact ⟨h5.1, Tx.zero_ok⟩
  have hI : I64 ((u1.1 : Nat) : Int) := by
    have := h1.2.2
    generalize u1.1 = u at this
    unfold I64
    omega
  exact ⟨h5.1, ⟨hI, h3.2.1, h4.2.1, h5.2.1⟩⟩
end Go.Proofs.YtjchneebdlncfaaDoor.Lib
namespace Go.Proofs.YtjchneebdlncfaaDoor.Den
open Go Go.RowKit
/-- A function's outermost sequence. -/
inductive T where
  | last (s : S)
  | seq (a : S) (t : T)
  | join (sl : List (Nat × Ty)) (ks : List Nat) (a : S) (t : T)
  | rf (g : Operand) (ps : List (Nat × Ty)) (sl : List (Nat × Ty)) (ks : List Nat) (sa sb : S) (t : T)
/-- What turns is no cells, and lies at or beyond B. -/
def NoCells (B : Nat) (s : List Nat) (W : World) : Prop := ∀ k ∈ s, B ≤ k ∧ ∃ o : Obj, W.heap[k]? = some o ∧ o.isCells = false
/-- This is no matter. -/
def Stable {α : Type} (B : Nat) (I : α → World → Prop) : Prop := ∀ (x : α) (W W' : World) (s : List Nat), I x W → Tch s W W' → NoCells B s W → I x W'
def StableF (B : Nat) : (ts : List Ty) → Fn ts → Prop
  | [], J => ∀ (W W' : World) (s : List Nat), J W → Tch s W W' → NoCells B s W → J W'
  | .int _ :: ts, J => ∀ n, StableF B ts (J n)
  | .bool :: ts, J => ∀ b, StableF B ts (J b)
  | .str :: ts, J => ∀ s, StableF B ts (J s)
  | .sl :: ts, J => ∀ a n c, StableF B ts (J a n c)
  | .ptr :: ts, J => ∀ a, StableF B ts (J a)
  | .mp :: ts, J => ∀ r, StableF B ts (J r)
  | .agg :: ts, J => ∀ cs, StableF B ts (J cs)
  | .any :: ts, J => ∀ v, StableF B ts (J v)
/-! ### It is right -/
theorem grown_tch {W W' : World} {row : Option Nat} (h : W.grownBy W' row) : Tch row.toList W W' :=
  ⟨h.os, h.tape, h.output, h.size, fun k hk hn => h.block k hk (fun e => hn (by simp [← e]))⟩
theorem noCells_row {B : Nat} {W : World} {row : Option Nat} (hr : ∀ r, row = some r → B ≤ r ∧ ∃ o : Obj, W.heap[r]? = some o ∧ o.isCells = false) : NoCells B row.toList W := fun k hk => by
  cases row with
  | none => simp at hk
  | some r => simp at hk; subst hk; exact hr k rfl
theorem Stable.own {α : Type} {B : Nat} {I : α → World → Prop} (h : Stable B I) : OwnFrom B I := fun x W W' row hs hg hr => h x W W' _ hs (grown_tch hg) (noCells_row hr)
theorem StableF.app {B : Nat} : ∀ {ts : List Ty} {J : Fn ts} {vs : List Value} {W W' : World} {s : List Nat}, StableF B ts J → Den.app ts J vs W → Tch s W W' → NoCells B s W → Den.app ts J vs W'
  | [], _, [], _, _, _, h, ha, ht, hn => h _ _ _ ha ht hn
  | [], _, _ :: _, _, _, _, _, ha, _, _ => ha.elim
  | t :: ts, J, [], _, _, _, _, ha, _, _ => by cases t <;> exact (show False from ha).elim
  | t :: ts, J, v :: vs, W, W', s, h, ha, ht, hn => by
    cases t
    case any => exact StableF.app (ts := ts) (J := J v) (h v) ha ht hn
    all_goals cases v <;> first | exact (show False from ha).elim | skip
    case int.int k k' n =>
      have ha' : (bif same k' k then Den.app ts (J n) vs W else False) := ha
      show bif same k' k then Den.app ts (J n) vs W' else False
      cases hs : same k' k
      · rw [hs] at ha'; exact ha'.elim
      · rw [hs] at ha'; exact StableF.app (ts := ts) (J := J n) (h n) ha' ht hn
    case sl.slice a n c => exact StableF.app (ts := ts) (J := J a n c) (h a n c) ha ht hn
    all_goals exact StableF.app (ts := ts) (h _) ha ht hn
/-- Codes, one behind the other. -/
def wpL (F : Fence) (n : Nat) (P : Program) (Q : Exit → Act → World → Prop) : List Code → Act → World → Prop
  | [], a, w => Q .normal a w
  | c :: cs, a, w => c.wpIn F n P (Exit.then (wpL F n P Q cs) Q) a w
section
variable {P : Program} {pn : List Nat} {rs : List Res} {R : Ending → World → Prop} {fn : Func}
end
end Go.Proofs.YtjchneebdlncfaaDoor.Den
namespace Go.Proofs.YtjchneebdlncfaaDoor.Den
open Go Go.RowKit
/-! ### The function -/
/-- Its outermost sequence: what comes ahead; the operations ahead of 'defer'; the closure's slot; the slots of the results; those that live on; the rest. -/
structure Dn where
  pre : List S
  xs : List X
  g : Nat
  rk : List Nat
  ks : List Nat
  rest : S
/-- A frame's way out, by its mode. -/
def outK (rs : List Res) (R : Ending → World → Prop) (e : Env) : FrameMode → World → Prop
  | .returning, w => resK e w rs fun vs => R (.returned (endV vs)) w
  | .panicking ch, w => R (.panicked ch) w
  | .run, _ => False
def outD (P : Program) (gf : FuncId) (cap : Array Value) (u : FrameMode) (w : World) (K : FrameMode → World → Prop) : Prop :=
  CallsDIn (Fr none) 2 P gf cap u w fun
    | .returned _, u', w' => K (settle u') w'
    | .panicked ch, u', w' => K (raised u' ch) w'
    | .outgrown, _, _ => False
def endF (P : Program) (rs : List Res) (R : Ending → World → Prop) (gf : FuncId) (cap : Array Value) (er : Env) : Post
  | .normal, e, w => outD P gf cap .returning w (outK rs R e)
  | .ret, e, w => outD P gf cap .returning w (outK rs R e)
  | .panic ch, _, w => outD P gf cap (.panicking ch) w (outK rs R er)
  | _, _, _ => False
def denL (P : Program) (Q : Post) : List S → Env → World → (Env → World → Prop) → Prop
  | [], e, w, K => K e w
  | s :: r, e, w, K => denS P s e w (thenE (fun e' w' => denL P Q r e' w' K) Q)
def denDn (P : Program) (rs : List Res) (R : Ending → World → Prop) (d : Dn) (e : Env) (w : World) : Prop :=
  denL P (endK rs R) d.pre e w fun e1 w1 => denOps P (panQ (endK rs R)) d.xs e1 w1 fun e2 w2 =>
    rdK e2 (.tmp d.g) fun v => fnK v fun gf first cap => first = #[] ∧ HasBody P gf ∧ keepK e2 d.rk fun er => keepK e2 d.ks fun e3 => denS P d.rest e3 w2 (endF P rs R gf cap er)
def isDefer (o : Oper) (g : Nat) : Bool :=
  match o.op, o.dst, o.guard with
  | .defer c, none, none => (match c.callee with | .value (.tmp t) => Nat.beq t g | _ => false) && c.args.isEmpty
  | _, _, _ => false
def trDn0 (P : Program) (pn : List Nat) (n : Nat) (d : Dn) (cs : List Code) : Option Dn :=
  match cs with
  | [.region _ ops false, c] =>
    match ops.toList.getLast? with
    | some o =>
      match trXs P pn n ops ops.toList.dropLast, trS P pn n c d.rest, isDefer o d.g && (d.rk.all fun k => !(asg c).contains k) with
      | some xs, some s, true => some { pre := [], xs, g := d.g, rk := d.rk, ks := d.ks, rest := s }
      | _, _, _ => none
    | none => none
  | _ => none
def trDn (P : Program) (pn : List Nat) (n : Nat) (d : Dn) : List S → List Code → Option Dn
  | [], cs => trDn0 P pn n d cs
  | p :: ps, cs =>
    match cs with
    | c :: b =>
      match trS P pn n c p, trDn P pn n d ps b with
      | some s, some d' => some { d' with pre := s :: d'.pre }
      | _, _ => none
    | [] => none

theorem run_deferOp {ρ : Operand → Value} {o : Oper} {g : Nat} {gf : FuncId} {cap : Array Value} {P : Program} {w : World} (h : isDefer o g = true) (hv : ρ (.tmp g) = .func (.func gf) #[] cap) :
    (execOp ρ o).run P w = .ok (.defer { target := .fn (.func gf) cap, args := #[] }) w := by
  unfold isDefer at h
  split at h
  · rename_i c ho hd hg
    rw [Bool.and_eq_true] at h
    obtain ⟨h1, h2⟩ := h
    split at h1
    · rename_i t hc
      obtain rfl := Nat.eq_of_beq_eq_true h1
      have ha : c.args = #[] := by simpa using h2
      obtain ⟨dst, op, ty, pos, after, guard⟩ := o
      subst ho
      have e1 : execOp ρ ⟨dst, .defer c, ty, pos, after, guard⟩ = (do pure (Next.defer (← resolve ρ c ty))) := rfl
      rw [e1]
      unfold resolve
      rw [hc]
      show Sem.run P (do pure (Next.defer (← Deferred.ofValue (ρ (.tmp t)) (c.args.map ρ)))) w = _
      rw [hv, ha]
      simp [Deferred.ofValue, Result.andThen]
    · cases h1
  · cases h

/-- A code's parts, so many of them. -/
def spineC : Nat → Code → List Code
  | 0, c => [c]
  | k + 1, .seq a b => a :: spineC k b
  | _ + 1, c => [c]
theorem wpL_one {F : Fence} {n : Nat} {P : Program} {Q : Exit → Act → World → Prop} {c : Code} {a : Act} {w : World} (h : wpL F n P Q [c] a w) : c.wpIn F n P Q a w :=
  wpIn_mono h fun ex a' w' hQ => by cases ex <;> exact hQ
theorem wpL_spineC {F : Fence} {n : Nat} {P : Program} {Q : Exit → Act → World → Prop} : ∀ {k : Nat} {c : Code} {a : Act} {w : World}, wpL F n P Q (spineC k c) a w → c.wpIn F n P Q a w := by
  intro k
  induction k with
  | zero => intro c a w h; exact wpL_one h
  | succ k ih =>
    intro c a w h
    cases c with
    | seq c1 c2 =>
      refine wpIn_seq (wpIn_mono (show c1.wpIn F n P (Exit.then (wpL F n P Q (spineC k c2)) Q) a w from h) fun ex a' w' hQ => ?_)
      cases ex
      case normal => exact ih hQ
      all_goals exact hQ
    | _ => exact wpL_one h
section
variable {P : Program} {pn : List Nat} {rs : List Res} {R : Ending → World → Prop} {fn : Func}
theorem leaves_out (hr : trRess P fn.results.toList = some rs) {n : Nat} {d0 : List Deferred} {a : Act} {e : Env} {w : World} (ok : Ok n d0 a e) {u : FrameMode} (h : outK rs R e u w) : LeavesIn (Fr none) 3 P fn a.tmps R [] u w := by
  cases u with
  | run => exact h.elim
  | returning => exact run_results (K := fun v => R (.returned v) w) hr ok h
  | panicking ch => exact h
theorem leaves_fn (hr : trRess P fn.results.toList = some rs) {n : Nat} {d0 : List Deferred} {a : Act} {e : Env} {w : World} (ok : Ok n d0 a e) {u : FrameMode} (hu : u ≠ .run) {gf : FuncId} {cap : Array Value} (hb : HasBody P gf) (h : outD P gf cap u w (outK rs R e)) :
    LeavesIn (Fr none) 3 P fn a.tmps R [{ target := .fn (.func gf) cap, args := #[] }] u w := by
  refine ⟨hu, fun _ => by omega, .func gf, cap, gf, #[] ++ cap, rfl, run_callFunc hb, fun _ _ => trivial, ?_⟩
  rw [Array.empty_append]
  refine CallsDIn.mono h fun e' u' w' hq => ?_
  cases e' with
  | returned v => exact leaves_out hr ok hq
  | panicked ch => exact leaves_out hr ok hq
  | outgrown => exact hq.elim
theorem denDn_sound (hr : trRess P fn.results.toList = some rs) : ∀ {ps : List S} {d d' : Dn} {cs : List Code} {e : Env} {a : Act} {w : World}, trDn P pn fn.ntmps d ps cs = some d' → Ok fn.ntmps [] a e → denDn P rs R d' e w → wpL (Fr none) 3 P (bodyPostDIn (Fr none) 3 P fn R) cs a w
  | [], d, d', cs, e, a, w, ht, ha, hd => by
    unfold trDn trDn0 at ht
    split at ht
    · rename_i id ops c
      split at ht
      · rename_i o ho
        split at ht
        · rename_i xs s h1 h2 h3
          cases ht
          rw [Bool.and_eq_true] at h3
          obtain ⟨hdf, hrk⟩ := h3
          have hd' : denOps P (panQ (endK rs R)) xs e w fun e2 w2 => rdK e2 (.tmp d.g) fun v => fnK v fun gf first cap => first = #[] ∧ HasBody P gf ∧ keepK e2 d.rk fun er => keepK e2 d.ks fun e3 => denS P s e3 w2 (endF P rs R gf cap er) := hd
          have hl : ops.toList = ops.toList.dropLast ++ [o] := by
            obtain ⟨ys, hy⟩ := List.getLast?_eq_some_iff.1 ho
            rw [hy, List.dropLast_concat]
          refine wpIn_region_list ?_
          rw [hl]
          refine denOps_tail (l2 := [o]) (Z := panQ (endK rs R)) (d0 := []) (r0 := none) (l0 := asg (.region id ops false)) (a0 := a) (fun ch a' w' hdf hsm hz => ?_) (fun o' ho' d hdst => List.mem_filterMap.2 ⟨o', List.dropLast_subset _ ho', hdst⟩) (SmA.refl _ _) h1 ha hd' fun a' e2 w2 ok2 _ hK => ?_
          · show LeavesIn _ _ _ _ _ _ a'.defers _ _
            rw [hdf]
            exact hz
          obtain ⟨v, hv, hK⟩ := rdK_spec hK
          cases v <;> first | exact (show False from hK).elim | skip
          rename_i f first cap
          cases f <;> first | exact (show False from hK).elim | skip
          rename_i gf
          obtain ⟨rfl, hb, hK⟩ := hK
          obtain ⟨er, her, hK⟩ := keepK_spec hK
          obtain ⟨e3, he3, hden⟩ := keepK_spec hK
          have hev := ok2.eval _ _ hv
          have hgn : o.guard = none ∧ o.dst = none ∧ ∃ c, o.op = .defer c := by
            unfold isDefer at hdf
            split at hdf
            · rename_i c q1 q2 q3; exact ⟨q3, q2, c, q1⟩
            · cases hdf
          obtain ⟨q1, q2, cc, q3⟩ := hgn
          show wpListIn (Fr none) 3 P ops _ [o] a' w2
          unfold wpListIn
          rw [if_pos (by unfold Region.wanted; rw [q1])]
          refine ⟨fun f hf => (by unfold Oper.about at hf; rw [q3] at hf; cases hf), ?_⟩
          show o.uponIn _ _ _ _ _ _ ((Oper.semAt none a'.eval o).run P w2)
          rw [Oper.semAt_none, run_deferOp hdf hev, Oper.uponIn_defer, q2]
          show wpL (Fr none) 3 P (bodyPostDIn (Fr none) 3 P fn R) [c] _ w2
          have ok3 : Ok fn.ntmps [{ target := .fn (.func gf) cap, args := #[] }] { a' with defers := { target := .fn (.func gf) cap, args := #[] } :: a'.defers } e3 := ⟨ok2.size, by show _ :: a'.defers = _; rw [ok2.defers], fun t v hf => ok2.at' t v (he3 t v hf).2⟩
          refine wpIn_mono (denS_sound (r0 := none) (m := 3) h2 ok3 hden) fun ex a3 w3 hA => ?_
          cases ex
          case normal =>
            obtain ⟨_, _, e', ok', hq⟩ := hA
            show LeavesIn _ _ _ _ _ _ a3.defers _ _
            rw [ok'.defers]
            exact leaves_fn hr ok' (by simp) hb hq
          case ret =>
            obtain ⟨_, _, e', ok', hq⟩ := hA
            show LeavesIn _ _ _ _ _ _ a3.defers _ _
            rw [ok'.defers]
            exact leaves_fn hr ok' (by simp) hb hq
          case panic ch =>
            obtain ⟨hdef, hsm, hq⟩ := hA
            show LeavesIn _ _ _ _ _ _ a3.defers _ _
            rw [hdef]
            have oke : Ok fn.ntmps [{ target := .fn (.func gf) cap, args := #[] }] a3 er := ⟨hsm.1.trans ok2.size, hdef, fun t v hf => by
              obtain ⟨g1, g2⟩ := her t v hf
              have hk := List.all_eq_true.1 hrk t g1
              simp only [Bool.not_eq_true', List.contains_eq_mem, decide_eq_false_iff_not] at hk
              rw [hsm.2 t hk]
              exact ok2.at' t v g2⟩
            exact leaves_fn hr oke (by simp) hb hq
          all_goals
            obtain ⟨_, _, e', ok', hq⟩ := hA
            exact hq.elim
        · cases ht
      · cases ht
    · cases ht
  | p :: ps, d, d', cs, e, a, w, ht, ha, hd => by
    unfold trDn at ht
    split at ht
    · rename_i c b
      split at ht
      · rename_i s d2 h1 h2
        cases ht
        have hd' : denS P s e w (thenE (fun e' w' => denDn P rs R d2 e' w') (endK rs R)) := hd
        refine wpIn_mono (denS_sound (r0 := none) (m := 3) h1 ha hd') fun ex a' w' hA => ?_
        cases ex
        case normal =>
          obtain ⟨_, _, e', ok', hq⟩ := hA
          exact denDn_sound hr h2 ok' hq
        case ret =>
          obtain ⟨_, _, e', ok', hq⟩ := hA
          show LeavesIn _ _ _ _ _ _ a'.defers _ _
          rw [ok'.defers]
          exact run_results (K := fun v => R (.returned v) w') hr ok' hq
        case panic ch =>
          obtain ⟨hdef, _, hq⟩ := hA
          show LeavesIn _ _ _ _ _ _ a'.defers _ _
          rw [hdef]
          exact hq
        all_goals
          obtain ⟨_, _, e', ok', hq⟩ := hA
          exact hq.elim
      · cases ht
    · cases ht
end
/-- A CALL of a function that defers a closure, out of its code's denotation. -/
theorem calls_of_denDn {P : Program} {pn : List Nat} {f : FuncId} {fn : Func} {c : Code} {d : Dn} {rs : List Res} {args : List Value} {w : World} {R : Ending → World → Prop} (hf : P.funcs[f]? = some fn) (hb : fn.body = some c) (hn : args.length ≤ fn.ntmps)
    (ht : trDn P pn fn.ntmps d d.pre (spineC (d.pre.length + 1) c) = some d) (hr : trRess P fn.results.toList = some rs) (hd : denDn P rs R d (argsEnv 0 args) w) : Calls P f args.toArray w R := by
  refine callsFr.1 (callsIn_of_wp_defers (F := Fr none) (n := 3) hf hb trivial ?_ rfl)
  have ha : Ok fn.ntmps [] { tmps := args.toArray ++ Array.replicate (fn.ntmps - args.toArray.size) undef, defers := [] } (argsEnv 0 args) := by
    refine ⟨by simp; omega, rfl, fun t v hf => ?_⟩
    obtain ⟨_, h2⟩ := find_args hf
    have hlt : t < args.length := (List.getElem?_eq_some_iff.1 h2).1
    simp only [Nat.sub_zero] at h2
    obtain ⟨_, h3⟩ := List.getElem?_eq_some_iff.1 h2
    simp [Array.getElem?_append, hlt, h3]
  exact wpL_spineC (denDn_sound hr ht ha hd)
end Go.Proofs.YtjchneebdlncfaaDoor.Den
namespace Go.Proofs.YtjchneebdlncfaaDoor.Den
open Go Go.RowKit
/-- Its code: 'recover' into a slot, the operations behind it, those slots that live on, the rest. -/
structure Df where
  d : Nat
  xs : List X
  ks : List Nat
  s : S
/-- What 'recover' yields, and the mode of the frame below then. -/
def recQ : FrameMode → Value × FrameMode
  | .panicking ({ v, recovered := false, goexit := false } :: older) => (v, .panicking ({ v, recovered := true } :: older))
  | u => (.nilIface, u)
def endD (rs : List Res) (R : Ending → FrameMode → World → Prop) (u : FrameMode) : Post
  | .normal, e, w => resK e w rs fun vs => R (.returned (endV vs)) u w
  | .ret, e, w => resK e w rs fun vs => R (.returned (endV vs)) u w
  | .panic ch, _, w => R (.panicked ch) u w
  | _, _, _ => False
def denDf (P : Program) (rs : List Res) (R : Ending → FrameMode → World → Prop) (h : Df) (u : FrameMode) (e : Env) (w : World) : Prop :=
  denOps P (panQ (endD rs R (recQ u).2)) h.xs (put (some h.d) (recQ u).1 e) w fun e' w' => keepK e' h.ks fun e'' => denS P h.s e'' w' (endD rs R (recQ u).2)
/-- An operation that calls nothing. -/
def calmOp : Op → Bool
  | .move _ | .assign _ | .binOp _ _ _ _ _ | .typeAssert _ _ _ _ | .extract _ _ | .unOp _ _ _ | .load _ _ | .alloc _ | .store _ _ _ => true
  | _ => false
def isRecover (o : Oper) (d : Nat) : Bool :=
  match o.op, o.dst, o.guard with
  | .call c, some k, none => (match c.callee with | .builtin .recover => true | _ => false) && c.args.isEmpty && Nat.beq k d
  | _, _, _ => false
def trDf (P : Program) (pn : List Nat) (n : Nat) (h : Df) : Code → Option Df
  | .seq (.region _ ops false) c =>
    match ops.toList with
    | o :: r =>
      match trXs P pn n ops r, trS P pn n c h.s, isRecover o h.d && (r.all fun o => calmOp o.op) && decide (h.d < n) with
      | some xs, some s, true => some { d := h.d, xs, ks := h.ks, s }
      | _, _, _ => none
    | [] => none
  | _ => none

theorem run_v {P : Program} {w w' : World} {n : Next} {s : Sem Value} (h : Sem.run P (do pure (Next.value (← s))) w = .ok n w') : ∃ v, n = .value v := by
  cases hs : Sem.run P s w with
  | ok x w1 => simp [hs, Result.andThen] at h; exact ⟨x, h.1.symm⟩
  | halt a w1 => simp [hs, Result.andThen] at h
theorem run_u {P : Program} {w w' : World} {n : Next} {s : Sem Unit} (h : Sem.run P (do s; pure Next.skip) w = .ok n w') : n = .skip := by
  cases hs : Sem.run P s w with
  | ok x w1 => simp [hs, Result.andThen] at h; exact h.1.symm
  | halt a w1 => simp [hs, Result.andThen] at h
theorem run_pv {P : Program} {w w' : World} {n : Next} {v : Value} (h : Sem.run P (pure (Next.value v)) w = .ok n w') : ∃ v, n = .value v := by
  simp at h; exact ⟨v, h.1.symm⟩
theorem calm_next {P : Program} {w w' : World} {n : Next} {ρ : Operand → Value} {o : Oper} (hc : calmOp o.op = true) (h : (execOp ρ o).run P w = .ok n w') : (∃ v, n = .value v) ∨ n = .skip := by
  obtain ⟨dst, op, ty, pos, after, guard⟩ := o
  cases op <;> first | (cases hc; done) | exact .inl (run_pv h) | exact .inl (run_v h) | exact .inr (run_u h)
def wpListSIn (F : Fence) (P : Program) (ops : Array Oper) (Q : Exit → Act → List Frame → World → Prop) : List Oper → Act → List Frame → World → Prop
  | [], a, cs, w => Q .normal a cs w
  | o :: rest, a, cs, w =>
      (∀ f, o.about P w a.eval = some f → F.fn f) ∧
      if Region.wanted o (yielded ops a.tmps) then
        match (execOp a.eval o).run P w with
        | .ok .recover w' =>
          match recoverD cs with
          | some (v, cs') => wpListSIn F P ops Q rest (a.put o.dst v) cs' w'
          | none => wpListSIn F P ops Q rest (a.put o.dst .nilIface) cs w'
        | .ok (.value v) w' => wpListSIn F P ops Q rest (a.put o.dst v) cs w'
        | .ok .skip w' => wpListSIn F P ops Q rest (a.put o.dst undef) cs w'
        | .halt (.panic v) w' => Q (.panic [{ v, recovered := false }]) a cs w'
        | _ => False
      else wpListSIn F P ops Q rest (a.put o.dst undef) cs w
theorem wpOpsSIn_eq {F : Fence} {n : Nat} {P : Program} {ops : Array Oper} {Q : Exit → Act → List Frame → World → Prop} (l : List Oper) : ∀ k, (∀ j, l[j]? = ops[k + j]?) → wpOpsSIn F n P ops Q (List.range' k l.length) = wpListSIn F P ops Q l := by
  induction l with
  | nil => intro k _; funext a cs w; simp [wpOpsSIn, wpListSIn]
  | cons o l ih =>
    intro k h
    have h0 : ops[k]? = some o := by simpa using (h 0).symm
    have ih' := ih (k + 1) (fun j => by have := h (j + 1); simpa [Nat.add_assoc, Nat.add_comm 1 j] using this)
    funext a cs w
    simp only [List.length_cons, List.range'_succ, wpOpsSIn, h0, wpListSIn, ih']
    rfl
section
variable {P : Program} {pn : List Nat} {Z : Pan}
theorem denOps_S {n : Nat} {d0 : List Deferred} {ops : Array Oper} {cs : List Frame} {Q : Exit → Act → List Frame → World → Prop} (hz : ∀ ch a' w', a'.defers = d0 → Z ch w' → Q (.panic ch) a' cs w') : ∀ {l : List Oper} {xs : List X} {e : Env} {a : Act} {w : World} {K : Env → World → Prop},
    (∀ o ∈ l, calmOp o.op = true) → trXs P pn n ops l = some xs → Ok n d0 a e → denOps P Z xs e w K → (∀ a' e' w', Ok n d0 a' e' → K e' w' → Q .normal a' cs w') → wpListSIn (Fr none) P ops Q l a cs w
  | [], xs, e, a, w, K, _, ht, ha, hd, hq => by
    cases ht
    exact hq a e w ha hd
  | o :: r, xs, e, a, w, K, hc, ht, ha, hd, hq => by
    unfold trXs at ht
    split at ht
    · rename_i x xs' hx hxs
      cases ht
      have hs := denX_sound hx ha hd
      unfold opR at hs
      unfold wpListSIn
      have step : ∀ v w', (∃ e', Ok n d0 (a.put o.dst v) e' ∧ denOps P Z xs' e' w' K) → wpListSIn (Fr none) P ops Q r (a.put o.dst v) cs w' := fun v w' ⟨e', hok, hden⟩ =>
        denOps_S hz (fun o' ho' => hc o' (by simp [ho'])) hxs hok hden hq
      refine ⟨fun _ _ => trivial, ?_⟩
      split
      · rename_i hw
        rw [if_pos hw] at hs
        unfold RunsTo at hs
        cases hr : (execOp a.eval o).run P w with
        | ok nx w' =>
          rw [hr] at hs
          rcases calm_next (hc o (by simp)) hr with ⟨v, rfl⟩ | rfl
          · exact step v w' hs
          · exact step undef w' hs
        | halt x w' =>
          rw [hr] at hs
          cases x <;> first | exact hz _ a w' ha.defers hs | exact hs.elim
      · rename_i hw
        rw [if_neg hw] at hs
        exact step _ _ hs
    · cases ht
theorem run_recover {ρ : Operand → Value} {o : Oper} {d : Nat} {w : World} (h : isRecover o d = true) : (execOp ρ o).run P w = .ok .recover w := by
  obtain ⟨dst, op, ty, pos, after, guard⟩ := o
  unfold isRecover at h
  split at h
  · rename_i c k ho hd hg
    simp only [Bool.and_eq_true] at h
    obtain ⟨⟨h1, h2⟩, _⟩ := h
    split at h1
    · rename_i hcal
      have ha : c.args = #[] := by simpa using h2
      simp only at ho
      subst ho
      have e1 : execOp ρ ⟨dst, .call c, ty, pos, after, guard⟩ = (do let d ← resolve ρ c ty; invoke d.target d.args) := rfl
      rw [e1]
      unfold resolve
      rw [hcal, ha]
      rfl
    · cases h1
  · cases h
theorem recoverD_eq (c0 : Frame) (cs : List Frame) : recoverD (c0 :: cs) = some ((recQ c0.mode).1, { c0 with mode := (recQ c0.mode).2 } :: cs) ∨ (recoverD (c0 :: cs) = none ∧ recQ c0.mode = (.nilIface, c0.mode)) := by
  simp only [recoverD, recQ]
  split <;> simp_all
end
/-- A DEFERRED CALL of a closure that recovers, out of its code's denotation. -/
theorem callsD_of_den {P : Program} {pn : List Nat} {f : FuncId} {fn : Func} {c : Code} {h : Df} {rs : List Res} {args : List Value} {u : FrameMode} {w : World} {R : Ending → FrameMode → World → Prop} {m : Nat} (hf : P.funcs[f]? = some fn) (hb : fn.body = some c) (hn : args.length ≤ fn.ntmps)
    (ht : trDf P pn fn.ntmps h c = some h) (hr : trRess P fn.results.toList = some rs) (hd : denDf P rs R h u (argsEnv 0 args) w) : CallsDIn (Fr none) m P f args.toArray u w R := by
  refine callsDIn_of_wpSIn hf hb trivial fun c0 cs hu => ?_
  subst hu
  have ha : Ok fn.ntmps [] { tmps := args.toArray ++ Array.replicate (fn.ntmps - args.toArray.size) undef, defers := [] } (argsEnv 0 args) := by
    refine ⟨by simp; omega, rfl, fun t v hf => ?_⟩
    obtain ⟨_, h2⟩ := find_args hf
    have hlt : t < args.length := (List.getElem?_eq_some_iff.1 h2).1
    simp only [Nat.sub_zero] at h2
    obtain ⟨_, h3⟩ := List.getElem?_eq_some_iff.1 h2
    simp [Array.getElem?_append, hlt, h3]
  generalize ({ tmps := args.toArray ++ Array.replicate (fn.ntmps - args.toArray.size) undef, defers := [] } : Act) = a at ha ⊢
  unfold trDf at ht
  split at ht
  · rename_i id ops c2
    split at ht
    · rename_i o r hops
      split at ht
      · rename_i xs s h1 h2 h3
        simp only [Bool.and_eq_true, decide_eq_true_eq, List.all_eq_true] at h3
        obtain ⟨⟨hrec, hcalm⟩, hdn⟩ := h3
        have exs : xs = h.xs := congrArg Df.xs (Option.some.inj ht)
        have es : s = h.s := congrArg Df.s (Option.some.inj ht)
        subst exs
        subst es
        clear ht
        obtain ⟨hd', xs, ks, s⟩ := h
        refine wpSIn_seq (wpSIn_region ?_)
        rw [List.range_eq_range', ← Array.length_toList, wpOpsSIn_eq ops.toList 0 (by simp), hops]
        unfold wpListSIn
        refine ⟨fun _ _ => trivial, ?_⟩
        have hg : o.guard = none ∧ o.dst = some hd' := by
          unfold isRecover at hrec
          split at hrec
          · rename_i cc k g1 g2 g3
            simp only [Bool.and_eq_true] at hrec
            exact ⟨g3, by rw [g2, Nat.eq_of_beq_eq_true hrec.2]⟩
          · cases hrec
        rw [if_pos (by unfold Region.wanted; rw [hg.1]), run_recover hrec]
        simp only
        have fin : wpListSIn (Fr none) P ops (Exit.thenS (c2.wpSIn (Fr none) m P (bodyPostS P fn c0 cs R)) (bodyPostS P fn c0 cs R)) r (a.put o.dst (recQ c0.mode).1) ({ c0 with mode := (recQ c0.mode).2 } :: cs) w := by
          rw [hg.2]
          have ok1 : Ok fn.ntmps [] (a.put (some hd') (recQ c0.mode).1) (put (some hd') (recQ c0.mode).1 (argsEnv 0 args)) := by
            have := ha.put (dst := some hd') (fun d hd => by cases hd; exact hdn) (recQ c0.mode).1
            exact this
          refine denOps_S (Z := panQ (endD rs R (recQ c0.mode).2)) (d0 := []) (fun ch a' w' hdef hz => ⟨hdef, _, rfl, hz⟩) hcalm h1 ok1 hd fun a' e' w' ok' hK => ?_
          obtain ⟨e'', hk, hden⟩ := keepK_spec hK
          refine wpSIn_of_wpIn rfl (wpIn_mono (denS_sound (r0 := none) (m := m) h2 (ok'.keep fun t v hf => (hk t v hf).2) hden) fun ex a3 w3 hA => ?_)
          cases ex with
          | normal =>
            obtain ⟨_, _, e3, ok3, hq⟩ := hA
            obtain ⟨v, g1, g2⟩ := run_results (K := fun v => R (.returned v) (recQ c0.mode).2 w3) hr ok3 hq
            exact ⟨ok3.defers, _, rfl, v, g1, g2⟩
          | ret =>
            obtain ⟨_, _, e3, ok3, hq⟩ := hA
            obtain ⟨v, g1, g2⟩ := run_results (K := fun v => R (.returned v) (recQ c0.mode).2 w3) hr ok3 hq
            exact ⟨ok3.defers, _, rfl, v, g1, g2⟩
          | panic ch => exact ⟨hA.1, _, rfl, hA.2.2⟩
          | _ =>
            obtain ⟨_, _, e3, ok3, hq⟩ := hA
            exact hq.elim
        rcases recoverD_eq c0 cs with hq | ⟨hq, hq2⟩
        · rw [hq]; exact fin
        · rw [hq]
          rw [hq2] at fin
          exact fin
      · cases ht
    · cases ht
  · cases ht
end Go.Proofs.YtjchneebdlncfaaDoor.Den
set_option maxRecDepth 100000
namespace Go.Proofs.YtjchneebdlncfaaDoor.Fn
open Go Den
/-- prelude/batch.Decode -/
def s43 : Den.Dn := { pre := [(.ops [⟨(some 2), (.alloc 35), .ptr, none⟩,
  ⟨(some 3), (.alloc 3), .ptr, none⟩,
  ⟨(some 4), (.alloc 40), .ptr, none⟩] [2, 3, 4, 0])], xs := [⟨(some 6), (.mkF (.func 78) [] [(.tmp 2), (.tmp 3), (.tmp 4)]), .any, none⟩], g := 6, rk := [2, 3, 4], ks := [0, 2, 3, 4], rest := (.seq (.ops [⟨(some 7), (.mv (.tmp 0)), .sl, none⟩,
  ⟨(some 8), (.call 76 [(.tmp 7)] [.ptr]), .ptr, none⟩,
  ⟨(some 9), (.bld 144 (.fields [(0, 1)]) [(0, (.tmp 8))]), .agg, none⟩,
  ⟨(some 5), (.alloc 144), .ptr, none⟩,
  ⟨none, (.stN 1 (.tmp 5) (.tmp 9)), .any, none⟩] [5, 2, 3, 4])
 (.seq (.seq (.ops [⟨(some 10), (.ldN 1 (.tmp 5)), .agg, none⟩,
  ⟨(some 11), (.callP 79 [(.tmp 10), (.const (.int .i64 64))] [(.int .i64)]), (.int .i64), none⟩,
  ⟨(some 12), (.mv (.const (.int .i64 0))), (.int .i64), none⟩] [12, 11, 2, 5, 3, 4])
 (.block 0
 (.loop [(12, (.int .i64))] [2, 3, 4, 5, 11]
 (.seq (.ops [⟨(some 13), (.bin .lss (.tmp 12) (.tmp 11)), .bool, none⟩] [13, 2, 5, 12, 11, 3, 4])
 (.seq (.cond (.tmp 13)
 .skip
 (.exit 0))
 (.seq (.block 1
 (.draw (.take 0 ⟨(some 14), (.ld1 (.tmp 2)), .sl, none⟩
  (.take 1 ⟨(some 15), (.ldN 1 (.tmp 5)), .agg, none⟩
  (.go 2 ⟨(some 16), (.callP 80 [(.tmp 15)] [.agg]), .agg, none⟩ [(0, ⟨(some 14), (.ld1 (.tmp 2)), .sl, none⟩)]
  (.go 3 ⟨(some 17), (.bldS 76 1 4 [(0, (.tmp 16))]), .sl, none⟩ [(0, ⟨(some 14), (.ld1 (.tmp 2)), .sl, none⟩)]
  (.go 4 ⟨(some 18), (.app #[35, 35] 35 (.tmp 14) (.tmp 17)), .sl, none⟩ []
  (.go 5 ⟨none, (.st1 (.tmp 2) (.tmp 18)), .any, none⟩ []
  .done)))))) [12, 11, 2, 5, 3, 4]))
 (.ops [⟨(some 19), (.bin .add (.tmp 12) (.const (.int .i64 1))), (.int .i64), none⟩,
  ⟨(some 12), (.mv (.tmp 19)), (.int .i64), none⟩] [12, 11, 2, 5, 3, 4])))))))
 (.seq (.seq (.ops [⟨(some 20), (.fa 0 (.tmp 5)), .ptr, none⟩,
  ⟨(some 21), (.ld1 (.tmp 20)), .ptr, none⟩,
  ⟨(some 22), (.call 45 [(.tmp 21)] [(.int .i64)]), (.int .i64), none⟩,
  ⟨(some 23), (.bin .gtr (.tmp 22) (.const (.int .i64 0))), .bool, none⟩] [23, 5, 2, 3, 4])
 (.cond (.tmp 23)
 (.ops [⟨(some 24), (.fa 0 (.tmp 5)), .ptr, none⟩,
  ⟨(some 25), (.ld1 (.tmp 24)), .ptr, none⟩,
  ⟨(some 26), (.call 81 [(.tmp 25)] [(.int .i64)]), (.int .i64), none⟩,
  ⟨(some 27), (.bld 141 (.fields [(0, 1), (1, 1)]) [(0, (.tmp 26)), (1, (.const (.int .i64 11)))]), .agg, none⟩,
  ⟨(some 28), (.mkI 141 (.tmp 27)), .any, none⟩,
  ⟨none, (.pan (.tmp 28)), .any, none⟩] [2, 3, 4])
 .skip))
 (.seq (.ops [⟨(some 29), (.ld1 (.tmp 2)), .sl, none⟩,
  ⟨none, (.st1 (.tmp 2) (.tmp 29)), .any, none⟩,
  ⟨none, (.st1 (.tmp 3) (.const (.int .i64 0))), .any, none⟩,
  ⟨none, (.st1 (.tmp 4) (.const (.int .i64 0))), .any, none⟩] [2, 3, 4])
 .ret)))) }
def r43 : List Res := [.c1 2 .sl, .c1 3 (.int .i64), .c1 4 (.int .i64)]
theorem tr43 : trDn Tryd.prog [79, 80, 95, 97] 30 s43 s43.pre (spineC (s43.pre.length + 1) (Tryd.f43.body.getD .skip)) = some s43 := by kernel_rfl
def d43 (data0 : Option Addr) (data0n : Nat) (data0c : Nat) (w : World) (R : Ending → World → Prop) : Prop :=
 ∀ w1 : World, w1 = World.alloc w (.cells (zc Tryd.prog 35).toArray 35) →
 ∀ w2 : World, w2 = World.alloc w1 (.cells (zc Tryd.prog 3).toArray 3) →
 ∀ w3 : World, w3 = World.alloc w2 (.cells (zc Tryd.prog 40).toArray 40) →
 (#[] : Array Value) = #[] ∧ HasBody Tryd.prog 78 ∧
 Calls Tryd.prog 76 #[(.slice data0 data0n data0c)] w3 fun e4 w5 => ∃ x6 : Option Addr, e4 = .returned (.pointer x6) ∧
 ∃ cs7, fillL (.fields [(0, 1)]) (zc Tryd.prog 144) [(0, (.pointer x6))] = some cs7 ∧
 ∀ w8 : World, w8 = World.alloc w5 (.cells (zc Tryd.prog 144).toArray 144) →
 Array.size (List.toArray cs7) = 1 ∧ (∀ u ∈ Array.toList (List.toArray cs7), one u = true) ∧ Room w8 ⟨World.heap w5 |>.size, 0, none⟩ 1 ∧
 ∀ w9 : World, w9 = setCells w8 ⟨World.heap w5 |>.size, 0, none⟩ (Array.toList (List.toArray cs7)) 0 →
 ∃ cs10 : List Value, List.length cs10 = 1 ∧ Cells w9 ⟨World.heap w5 |>.size, 0, none⟩ cs10 ∧
 Calls Tryd.prog 79 #[(.agg (List.toArray cs10)), (.int .i64 64)] w9 fun e11 w12 => orPan e11 (fun ch47 => outD Tryd.prog 78 #[(.pointer (some ⟨World.heap w |>.size, 0, none⟩)), (.pointer (some ⟨World.heap w1 |>.size, 0, none⟩)), (.pointer (some ⟨World.heap w2 |>.size, 0, none⟩))] (.panicking ch47) w12 (outK r43 R [(2, (.pointer (some ⟨World.heap w |>.size, 0, none⟩))), (3, (.pointer (some ⟨World.heap w1 |>.size, 0, none⟩))), (4, (.pointer (some ⟨World.heap w2 |>.size, 0, none⟩)))])) (∃ x13 : Int, e11 = .returned (.int .i64 x13) ∧
 ∃ I14 : Nat → Int → World → Prop,
 (∃ m, I14 m 0 w12) ∧
 (∀ (m15 : Nat) (w16 : World) (x17 : Int), I14 m15 x17 w16 →
 (bif (decide (x17 < x13)) then
 (∀ w18 : World, w18 = World.drew w16 →
 ∃ (x19 : Option Addr) (x19n : Nat) (x19c : Nat), World.cell? w18 ⟨World.heap w |>.size, 0, none⟩ = some (.slice x19 x19n x19c) ∧
 ∃ cs20 : List Value, List.length cs20 = 1 ∧ Cells w18 ⟨World.heap w5 |>.size, 0, none⟩ cs20 ∧
 Calls Tryd.prog 80 #[(.agg (List.toArray cs20))] w18 fun e21 w22 => orPan e21 (fun ch33 => outD Tryd.prog 78 #[(.pointer (some ⟨World.heap w |>.size, 0, none⟩)), (.pointer (some ⟨World.heap w1 |>.size, 0, none⟩)), (.pointer (some ⟨World.heap w2 |>.size, 0, none⟩))] (.panicking ch33) w22 (outK r43 R [(2, (.pointer (some ⟨World.heap w |>.size, 0, none⟩))), (3, (.pointer (some ⟨World.heap w1 |>.size, 0, none⟩))), (4, (.pointer (some ⟨World.heap w2 |>.size, 0, none⟩)))])) (∃ x23 : Array Value, e21 = .returned (.agg x23) ∧
 (∃ (z24 : Option Addr) (z24n : Nat) (z24c : Nat), World.cell? w22 ⟨World.heap w |>.size, 0, none⟩ = some (.slice z24 z24n z24c) ∧
 (((.slice z24 z24n z24c) : Value) = (.slice x19 x19n x19c) ∧ w22 = w22)) ∧
 ∃ cs25, fillL (.elems 4) (zrep (zc Tryd.prog 76) (1 * 4)) [(0, (.agg x23))] = some cs25 ∧
 ∀ w26 : World, w26 = World.alloc w22 (.cells (List.toArray cs25) 76) →
 (∃ (z27 : Option Addr) (z27n : Nat) (z27c : Nat), World.cell? w26 ⟨World.heap w |>.size, 0, none⟩ = some (.slice z27 z27n z27c) ∧
 (((.slice z27 z27n z27c) : Value) = (.slice x19 x19n x19c) ∧ w26 = w26)) ∧
 RunV Tryd.prog (Builtin.append_ #[35, 35] 35 #[(.slice x19 x19n x19c), (.slice (some ⟨World.heap w22 |>.size, 0, none⟩) 1 1)]) w26 fun v28 w29 => ∃ (x30 : Option Addr) (x30n : Nat) (x30c : Nat), v28 = (.slice x30 x30n x30c) ∧
 one (.slice x30 x30n x30c) = true ∧ Option.isSome (World.cell? w29 ⟨World.heap w |>.size, 0, none⟩) = true ∧ World.frozen? w29 ⟨World.heap w |>.size, 0, none⟩ = false ∧
 ∀ w31 : World, w31 = World.setCell w29 ⟨World.heap w |>.size, 0, none⟩ (.slice x30 x30n x30c) →
 ∃ m32, m32 < m15 ∧ I14 m32 (IntKind.wrap .i64 (x17 + 1)) w31))
 else
 (∃ x34 : Option Addr, World.cell? w16 (Addr.add ⟨World.heap w5 |>.size, 0, none⟩ 0) = some (.pointer x34) ∧
 Calls Tryd.prog 45 #[(.pointer x34)] w16 fun e35 w36 => ∃ x37 : Int, e35 = .returned (.int .i64 x37) ∧
 (bif (decide (0 < x37)) then
 (∃ x38 : Option Addr, World.cell? w36 (Addr.add ⟨World.heap w5 |>.size, 0, none⟩ 0) = some (.pointer x38) ∧
 Calls Tryd.prog 81 #[(.pointer x38)] w36 fun e39 w40 => ∃ x41 : Int, e39 = .returned (.int .i64 x41) ∧
 ∃ cs42, fillL (.fields [(0, 1), (1, 1)]) (zc Tryd.prog 141) [(0, (.int .i64 x41)), (1, (.int .i64 11))] = some cs42 ∧
 (∃ t u, ((.iface 141 (.agg (List.toArray cs42))) : Value) = .iface t u) ∧ outD Tryd.prog 78 #[(.pointer (some ⟨World.heap w |>.size, 0, none⟩)), (.pointer (some ⟨World.heap w1 |>.size, 0, none⟩)), (.pointer (some ⟨World.heap w2 |>.size, 0, none⟩))] (.panicking [⟨(.iface 141 (.agg (List.toArray cs42))), false, false⟩]) w40 (outK r43 R [(2, (.pointer (some ⟨World.heap w |>.size, 0, none⟩))), (3, (.pointer (some ⟨World.heap w1 |>.size, 0, none⟩))), (4, (.pointer (some ⟨World.heap w2 |>.size, 0, none⟩)))]))
 else
 (∃ (x43 : Option Addr) (x43n : Nat) (x43c : Nat), World.cell? w36 ⟨World.heap w |>.size, 0, none⟩ = some (.slice x43 x43n x43c) ∧
 one (.slice x43 x43n x43c) = true ∧ Option.isSome (World.cell? w36 ⟨World.heap w |>.size, 0, none⟩) = true ∧ World.frozen? w36 ⟨World.heap w |>.size, 0, none⟩ = false ∧
 ∀ w44 : World, w44 = World.setCell w36 ⟨World.heap w |>.size, 0, none⟩ (.slice x43 x43n x43c) →
 one (.int .i64 0) = true ∧ Option.isSome (World.cell? w44 ⟨World.heap w1 |>.size, 0, none⟩) = true ∧ World.frozen? w44 ⟨World.heap w1 |>.size, 0, none⟩ = false ∧
 ∀ w45 : World, w45 = World.setCell w44 ⟨World.heap w1 |>.size, 0, none⟩ (.int .i64 0) →
 one (.int .i64 0) = true ∧ Option.isSome (World.cell? w45 ⟨World.heap w2 |>.size, 0, none⟩) = true ∧ World.frozen? w45 ⟨World.heap w2 |>.size, 0, none⟩ = false ∧
 ∀ w46 : World, w46 = World.setCell w45 ⟨World.heap w2 |>.size, 0, none⟩ (.int .i64 0) →
 outD Tryd.prog 78 #[(.pointer (some ⟨World.heap w |>.size, 0, none⟩)), (.pointer (some ⟨World.heap w1 |>.size, 0, none⟩)), (.pointer (some ⟨World.heap w2 |>.size, 0, none⟩))] .returning w46 (outK r43 R [(2, (.pointer (some ⟨World.heap w |>.size, 0, none⟩))), (3, (.pointer (some ⟨World.heap w1 |>.size, 0, none⟩))), (4, (.pointer (some ⟨World.heap w2 |>.size, 0, none⟩)))])))))))
theorem e43 (data0 : Option Addr) (data0n : Nat) (data0c : Nat) (w : World) (R : Ending → World → Prop) : denDn Tryd.prog r43 R s43 (argsEnv 0 [(.slice data0 data0n data0c)]) w = d43 data0 data0n data0c w R := by kernel_rfl
theorem c43 (data0 : Option Addr) (data0n : Nat) (data0c : Nat) {w : World} {R : Ending → World → Prop} (h : d43 data0 data0n data0c w R) : Calls Tryd.prog 43 #[(.slice data0 data0n data0c)] w R :=
  calls_of_denDn (pn := [79, 80, 95, 97]) (fn := Tryd.f43) (c := Tryd.f43.body.getD .skip) (args := [(.slice data0 data0n data0c)]) Tryd.func43 (by kernel_rfl) (by rw [Tryd.ntmps43]; simp) (by rw [Tryd.ntmps43]; exact tr43) (by kernel_rfl) ((e43 data0 data0n data0c w R).symm ▸ h)

/-- prelude/batch.Decode$1 -/
def s78 : Den.Df := { d := 6, xs := [⟨(some 3), (.mv (.tmp 6)), .any, none⟩], ks := [0, 1, 2, 3], s := (.seq (.ops [⟨(some 7), (.mv (.tmp 3)), .any, none⟩,
  ⟨(some 8), (.nilEq true 4 (.tmp 7)), .bool, none⟩] [8, 3, 0, 1, 2])
 (.cond (.tmp 8)
 (.seq (.ops [⟨(some 10), (.mv (.tmp 3)), .any, none⟩,
  ⟨(some 11), (.rv (.asrt 20 141 true) [(.tmp 10)]), .any, none⟩,
  ⟨(some 9), (.mv (.tmp 11)), .any, none⟩,
  ⟨(some 12), (.ext 0 (.tmp 9)), .agg, none⟩,
  ⟨(some 13), (.ext 1 (.tmp 9)), .bool, none⟩,
  ⟨(some 4), (.alloc 141), .ptr, none⟩,
  ⟨none, (.stN 2 (.tmp 4) (.tmp 12)), .any, none⟩,
  ⟨(some 5), (.mv (.tmp 13)), .bool, none⟩] [5, 3, 4, 0, 1, 2])
 (.join [] [0, 1, 2, 4]
 (.seq (.ops [⟨(some 14), (.mv (.tmp 5)), .bool, none⟩,
  ⟨(some 15), (.un .not (.tmp 14)), .bool, none⟩] [15, 3, 4, 0, 1, 2])
 (.cond (.tmp 15)
 (.ops [⟨(some 16), (.mv (.tmp 3)), .any, none⟩,
  ⟨none, (.pan (.tmp 16)), .any, none⟩] [4, 0, 1, 2])
 .skip))
 (.draw (.take 0 ⟨(some 17), (.fa 0 (.tmp 4)), .ptr, none⟩
  (.take 1 ⟨(some 18), (.ld1 (.tmp 17)), (.int .i64), none⟩
  (.take 2 ⟨(some 19), (.fa 1 (.tmp 4)), .ptr, none⟩
  (.take 3 ⟨(some 20), (.ld1 (.tmp 19)), (.int .i64), none⟩
  (.go 4 ⟨none, (.st1 (.tmp 0) (.const (.slice none 0 0))), .any, none⟩ [(3, ⟨(some 20), (.ld1 (.tmp 19)), (.int .i64), none⟩), (1, ⟨(some 18), (.ld1 (.tmp 17)), (.int .i64), none⟩)]
  (.go 5 ⟨none, (.st1 (.tmp 1) (.tmp 18)), .any, none⟩ [(3, ⟨(some 20), (.ld1 (.tmp 19)), (.int .i64), none⟩)]
  (.go 6 ⟨none, (.st1 (.tmp 2) (.tmp 20)), .any, none⟩ []
  .done))))))) [])))
 .skip)) }
def r78 : List Res := []
theorem tr78 : trDf Tryd.prog [79, 80, 95, 97] 21 s78 (Tryd.f78.body.getD .skip) = some s78 := by kernel_rfl
def d78 (x0 : Option Addr) (x1 : Option Addr) (x2 : Option Addr) (x : Value) (u' : FrameMode) (w : World) (R : Ending → FrameMode → World → Prop) : Prop :=
 nilQ 4 x fun q3 => (bif (!q3) then
 (RunV Tryd.prog (Instr.typeAssert x 20 141 true) w fun v4 w5 => ∃ x6 : Value, v4 = x6 ∧
 tupK x6 fun vs7 =>
 ∃ x8 : Array Value, (vs7)[0]? = some (.agg x8) ∧
 tupK x6 fun vs9 =>
 ∃ x10 : Bool, (vs9)[1]? = some (.bool x10) ∧
 ∀ w11 : World, w11 = World.alloc w5 (.cells (zc Tryd.prog 141).toArray 141) →
 Array.size x8 = 2 ∧ (∀ u ∈ Array.toList x8, one u = true) ∧ Room w11 ⟨World.heap w5 |>.size, 0, none⟩ 2 ∧
 ∀ w12 : World, w12 = setCells w11 ⟨World.heap w5 |>.size, 0, none⟩ (Array.toList x8) 0 →
 ∃ J13 : World → Prop,
 ((bif (!x10) then
 ((∃ t u, (x : Value) = .iface t u) ∧ R (.panicked [⟨x, false, false⟩]) u' w12)
 else
 (J13  w12))) ∧
 (∀ (w14 : World), J13  w14 →
 ∀ w15 : World, w15 = World.drew w14 →
 ∃ x16 : Int, World.cell? w15 (Addr.add ⟨World.heap w5 |>.size, 0, none⟩ 0) = some (.int .i64 x16) ∧
 ∃ x17 : Int, World.cell? w15 (Addr.add ⟨World.heap w5 |>.size, 0, none⟩ 1) = some (.int .i64 x17) ∧
 optK x0 fun a18 =>
 one (.slice none 0 0) = true ∧ Option.isSome (World.cell? w15 a18) = true ∧ World.frozen? w15 a18 = false ∧
 ∀ w19 : World, w19 = World.setCell w15 a18 (.slice none 0 0) →
 (∃ z20 : Int, World.cell? w19 (Addr.add ⟨World.heap w5 |>.size, 0, none⟩ 1) = some (.int .i64 z20) ∧
 (((.int .i64 z20) : Value) = (.int .i64 x17) ∧ w19 = w19)) ∧
 (∃ z21 : Int, World.cell? w19 (Addr.add ⟨World.heap w5 |>.size, 0, none⟩ 0) = some (.int .i64 z21) ∧
 (((.int .i64 z21) : Value) = (.int .i64 x16) ∧ w19 = w19)) ∧
 optK x1 fun a22 =>
 one (.int .i64 x16) = true ∧ Option.isSome (World.cell? w19 a22) = true ∧ World.frozen? w19 a22 = false ∧
 ∀ w23 : World, w23 = World.setCell w19 a22 (.int .i64 x16) →
 (∃ z24 : Int, World.cell? w23 (Addr.add ⟨World.heap w5 |>.size, 0, none⟩ 1) = some (.int .i64 z24) ∧
 (((.int .i64 z24) : Value) = (.int .i64 x17) ∧ w23 = w23)) ∧
 optK x2 fun a25 =>
 one (.int .i64 x17) = true ∧ Option.isSome (World.cell? w23 a25) = true ∧ World.frozen? w23 a25 = false ∧
 ∀ w26 : World, w26 = World.setCell w23 a25 (.int .i64 x17) →
 R (.returned (.tuple #[])) u' w26))
 else
 (R (.returned (.tuple #[])) u' w))
theorem e78 (x0 : Option Addr) (x1 : Option Addr) (x2 : Option Addr) (x : Value) (u' : FrameMode) (w : World) (R : Ending → FrameMode → World → Prop) : denOps Tryd.prog (panQ (endD r78 R u')) s78.xs (put (some s78.d) x (argsEnv 0 [(.pointer x0), (.pointer x1), (.pointer x2)])) w (fun e' w' => keepK e' s78.ks fun e'' => denS Tryd.prog s78.s e'' w' (endD r78 R u')) = d78 x0 x1 x2 x u' w R := by kernel_rfl
theorem c78 (x0 : Option Addr) (x1 : Option Addr) (x2 : Option Addr) {m : Nat} {u : FrameMode} {w : World} {R : Ending → FrameMode → World → Prop} (h : d78 x0 x1 x2 (recQ u).1 (recQ u).2 w R) : CallsDIn (Fr none) m Tryd.prog 78 #[(.pointer x0), (.pointer x1), (.pointer x2)] u w R :=
  callsD_of_den (pn := [79, 80, 95, 97]) (fn := Tryd.f78) (c := Tryd.f78.body.getD .skip) (args := [(.pointer x0), (.pointer x1), (.pointer x2)]) Tryd.func78 (by kernel_rfl) (by rw [Tryd.ntmps78]; simp) (by rw [Tryd.ntmps78]; exact tr78) (by kernel_rfl) ((e78 x0 x1 x2 (recQ u).1 (recQ u).2 w R).symm ▸ h)

/-- (prelude/batch.reader).upto -/
def s79 : S := (.seq (.ops [⟨(some 2), (.box 144 (.tmp 0)), .ptr, none⟩,
  ⟨(some 4), (.mv (.const (.int .i64 0))), (.int .i64), none⟩] [2, 1])
 (.seq (.ops [⟨(some 7), (.fa 0 (.tmp 2)), .ptr, none⟩,
  ⟨(some 8), (.ld1 (.tmp 7)), .ptr, none⟩,
  ⟨(some 9), (.call 81 [(.tmp 8)] [(.int .i64)]), (.int .i64), none⟩,
  ⟨(some 5), (.mv (.tmp 9)), (.int .i64), none⟩] [2, 1, 5])
 (.seq (.ops [⟨(some 10), (.fa 0 (.tmp 2)), .ptr, none⟩,
  ⟨(some 11), (.ld1 (.tmp 10)), .ptr, none⟩,
  ⟨(some 12), (.mv (.tmp 1)), (.int .i64), none⟩,
  ⟨(some 13), (.cv .u64 (.tmp 12)), (.int .u64), none⟩,
  ⟨(some 14), (.call 49 [(.tmp 11), (.tmp 13)] [(.int .u64)]), (.int .u64), none⟩,
  ⟨(some 6), (.mv (.tmp 14)), (.int .u64), none⟩] [2, 5, 6])
 (.seq (.ops [⟨(some 15), (.ldN 1 (.tmp 2)), .agg, none⟩,
  ⟨(some 16), (.mv (.tmp 5)), (.int .i64), none⟩,
  ⟨(some 17), (.callP 95 [(.tmp 15), (.tmp 16)] []), .any, none⟩] [6])
 (.seq (.ops [⟨(some 18), (.mv (.tmp 6)), (.int .u64), none⟩,
  ⟨(some 19), (.cv .i64 (.tmp 18)), (.int .i64), none⟩,
  ⟨(some 4), (.mv (.tmp 19)), (.int .i64), none⟩] [4])
 .ret)))))
def r79 : List Res := [.t 4]
theorem tr79 : trS Tryd.prog [79, 80, 95, 97] 20 (Tryd.f79.body.getD .skip) s79 = some s79 := by kernel_rfl
theorem den79 (args : List Value) (w : World) (R : Ending → World → Prop) (hn : args.length ≤ 20) (h : denS Tryd.prog s79 (argsEnv 0 args) w (endK r79 R)) : Calls Tryd.prog 79 args.toArray w R :=
  calls_of_den (pn := [79, 80, 95, 97]) (fn := Tryd.f79) (c := Tryd.f79.body.getD .skip) Tryd.func79 (by kernel_rfl) (by rw [Tryd.ntmps79]; exact hn) (by rw [Tryd.ntmps79]; exact tr79) (by kernel_rfl) h
def d79 (r0 : Array Value) (most1 : Int) (w : World) (R : Ending → World → Prop) : Prop :=
 ∀ w2 : World, w2 = World.alloc w (.cells r0 144) →
 ∃ x3 : Option Addr, World.cell? w2 (Addr.add ⟨World.heap w |>.size, 0, none⟩ 0) = some (.pointer x3) ∧
 Calls Tryd.prog 81 #[(.pointer x3)] w2 fun e4 w5 => ∃ x6 : Int, e4 = .returned (.int .i64 x6) ∧
 ∃ x7 : Option Addr, World.cell? w5 (Addr.add ⟨World.heap w |>.size, 0, none⟩ 0) = some (.pointer x7) ∧
 Calls Tryd.prog 49 #[(.pointer x7), (.int .u64 (IntKind.wrap .u64 most1))] w5 fun e8 w9 => ∃ x10 : Int, e8 = .returned (.int .u64 x10) ∧
 ∃ cs11 : List Value, List.length cs11 = 1 ∧ Cells w9 ⟨World.heap w |>.size, 0, none⟩ cs11 ∧
 Calls Tryd.prog 95 #[(.agg (List.toArray cs11)), (.int .i64 x6)] w9 fun e12 w13 => orPan e12 (fun ch14 => R (.panicked ch14) w13) (e12 = .returned (.tuple #[]) ∧ R (.returned (.int .i64 (IntKind.wrap .i64 x10))) w13)
theorem e79 (r0 : Array Value) (most1 : Int) (w : World) (R : Ending → World → Prop) : denS Tryd.prog s79 (argsEnv 0 [(.agg r0), (.int .i64 most1)]) w (endK r79 R) = d79 r0 most1 w R := by kernel_rfl
theorem c79 (r0 : Array Value) (most1 : Int) {w : World} {R : Ending → World → Prop} (h : d79 r0 most1 w R) : Calls Tryd.prog 79 #[(.agg r0), (.int .i64 most1)] w R :=
  den79 [(.agg r0), (.int .i64 most1)] w R (by simp) ((e79 r0 most1 w R).symm ▸ h)

/-- (prelude/batch.reader).tx -/
def s80 : S := (.seq (.ops [⟨(some 1), (.box 144 (.tmp 0)), .ptr, none⟩,
  ⟨(some 2), (.alloc 76), .ptr, none⟩] [1, 2])
 (.seq (.ops [⟨(some 6), (.ldN 1 (.tmp 1)), .agg, none⟩,
  ⟨(some 7), (.callP 79 [(.tmp 6), (.const (.int .i64 63))] [(.int .i64)]), (.int .i64), none⟩,
  ⟨(some 8), (.bld 76 (.fields [(0, 1), (1, 1), (2, 1), (3, 1)]) [(0, (.tmp 7))]), .agg, none⟩,
  ⟨(some 3), (.alloc 76), .ptr, none⟩,
  ⟨none, (.stN 4 (.tmp 3) (.tmp 8)), .any, none⟩] [1, 3, 2])
 (.seq (.seq (.ops [⟨(some 9), (.ldN 1 (.tmp 1)), .agg, none⟩,
  ⟨(some 10), (.callP 79 [(.tmp 9), (.const (.int .i64 16))] [(.int .i64)]), (.int .i64), none⟩,
  ⟨(some 11), (.mv (.const (.int .i64 0))), (.int .i64), none⟩] [11, 10, 1, 3, 2])
 (.block 0
 (.loop [(11, (.int .i64))] [1, 2, 3, 10]
 (.seq (.ops [⟨(some 12), (.bin .lss (.tmp 11) (.tmp 10)), .bool, none⟩] [12, 1, 3, 11, 10, 2])
 (.seq (.cond (.tmp 12)
 .skip
 (.exit 0))
 (.seq (.block 1
 (.seq (.ops [⟨(some 13), (.fa 0 (.tmp 1)), .ptr, none⟩,
  ⟨(some 14), (.ld1 (.tmp 13)), .ptr, none⟩,
  ⟨(some 15), (.call 81 [(.tmp 14)] [(.int .i64)]), (.int .i64), none⟩,
  ⟨(some 4), (.mv (.tmp 15)), (.int .i64), none⟩] [1, 4, 3, 11, 10, 2])
 (.seq (.ops [⟨(some 16), (.fa 0 (.tmp 1)), .ptr, none⟩,
  ⟨(some 17), (.ld1 (.tmp 16)), .ptr, none⟩,
  ⟨(some 18), (.call 96 [(.tmp 17)] [(.int .i64)]), (.int .i64), none⟩,
  ⟨(some 5), (.mv (.tmp 18)), (.int .i64), none⟩] [1, 4, 3, 5, 11, 10, 2])
 (.seq (.ops [⟨(some 19), (.ldN 1 (.tmp 1)), .agg, none⟩,
  ⟨(some 20), (.mv (.tmp 4)), (.int .i64), none⟩,
  ⟨(some 21), (.callP 95 [(.tmp 19), (.tmp 20)] []), .any, none⟩] [3, 5, 11, 10, 1, 2])
 (.ops [⟨(some 22), (.fa 1 (.tmp 3)), .ptr, none⟩,
  ⟨(some 23), (.ld1 (.tmp 22)), .sl, none⟩,
  ⟨(some 24), (.mv (.tmp 5)), (.int .i64), none⟩,
  ⟨(some 25), (.bldS 2 1 1 [(0, (.tmp 24))]), .sl, none⟩,
  ⟨(some 26), (.app #[73, 73] 73 (.tmp 23) (.tmp 25)), .sl, none⟩,
  ⟨(some 27), (.fa 1 (.tmp 3)), .ptr, none⟩,
  ⟨none, (.st1 (.tmp 27) (.tmp 26)), .any, none⟩] [11, 10, 1, 3, 2])))))
 (.ops [⟨(some 28), (.bin .add (.tmp 11) (.const (.int .i64 1))), (.int .i64), none⟩,
  ⟨(some 11), (.mv (.tmp 28)), (.int .i64), none⟩] [11, 10, 1, 3, 2])))))))
 (.seq (.ops [⟨(some 29), (.ldN 1 (.tmp 1)), .agg, none⟩,
  ⟨(some 30), (.callP 97 [(.tmp 29), (.const (.int .i64 16))] [.sl]), .sl, none⟩,
  ⟨(some 31), (.fa 2 (.tmp 3)), .ptr, none⟩,
  ⟨none, (.st1 (.tmp 31) (.tmp 30)), .any, none⟩] [1, 3, 2])
 (.seq (.ops [⟨(some 32), (.ldN 1 (.tmp 1)), .agg, none⟩,
  ⟨(some 33), (.callP 97 [(.tmp 32), (.const (.int .i64 16))] [.sl]), .sl, none⟩,
  ⟨(some 34), (.fa 3 (.tmp 3)), .ptr, none⟩,
  ⟨none, (.st1 (.tmp 34) (.tmp 33)), .any, none⟩] [3, 2])
 (.seq (.ops [⟨(some 35), (.ldN 4 (.tmp 3)), .agg, none⟩,
  ⟨none, (.stN 4 (.tmp 2) (.tmp 35)), .any, none⟩] [2])
 .ret))))))
def r80 : List Res := [.cN 2 4]
theorem tr80 : trS Tryd.prog [79, 80, 95, 97] 36 (Tryd.f80.body.getD .skip) s80 = some s80 := by kernel_rfl
theorem den80 (args : List Value) (w : World) (R : Ending → World → Prop) (hn : args.length ≤ 36) (h : denS Tryd.prog s80 (argsEnv 0 args) w (endK r80 R)) : Calls Tryd.prog 80 args.toArray w R :=
  calls_of_den (pn := [79, 80, 95, 97]) (fn := Tryd.f80) (c := Tryd.f80.body.getD .skip) Tryd.func80 (by kernel_rfl) (by rw [Tryd.ntmps80]; exact hn) (by rw [Tryd.ntmps80]; exact tr80) (by kernel_rfl) h
def d80 (r0 : Array Value) (w : World) (R : Ending → World → Prop) : Prop :=
 ∀ w1 : World, w1 = World.alloc w (.cells r0 144) →
 ∀ w2 : World, w2 = World.alloc w1 (.cells (zc Tryd.prog 76).toArray 76) →
 ∃ cs3 : List Value, List.length cs3 = 1 ∧ Cells w2 ⟨World.heap w |>.size, 0, none⟩ cs3 ∧
 Calls Tryd.prog 79 #[(.agg (List.toArray cs3)), (.int .i64 63)] w2 fun e4 w5 => orPan e4 (fun ch54 => R (.panicked ch54) w5) (∃ x6 : Int, e4 = .returned (.int .i64 x6) ∧
 ∃ cs7, fillL (.fields [(0, 1), (1, 1), (2, 1), (3, 1)]) (zc Tryd.prog 76) [(0, (.int .i64 x6))] = some cs7 ∧
 ∀ w8 : World, w8 = World.alloc w5 (.cells (zc Tryd.prog 76).toArray 76) →
 Array.size (List.toArray cs7) = 4 ∧ (∀ u ∈ Array.toList (List.toArray cs7), one u = true) ∧ Room w8 ⟨World.heap w5 |>.size, 0, none⟩ 4 ∧
 ∀ w9 : World, w9 = setCells w8 ⟨World.heap w5 |>.size, 0, none⟩ (Array.toList (List.toArray cs7)) 0 →
 ∃ cs10 : List Value, List.length cs10 = 1 ∧ Cells w9 ⟨World.heap w |>.size, 0, none⟩ cs10 ∧
 Calls Tryd.prog 79 #[(.agg (List.toArray cs10)), (.int .i64 16)] w9 fun e11 w12 => orPan e11 (fun ch53 => R (.panicked ch53) w12) (∃ x13 : Int, e11 = .returned (.int .i64 x13) ∧
 ∃ I14 : Nat → Int → World → Prop,
 (∃ m, I14 m 0 w12) ∧
 (∀ (m15 : Nat) (w16 : World) (x17 : Int), I14 m15 x17 w16 →
 (bif (decide (x17 < x13)) then
 (∃ x18 : Option Addr, World.cell? w16 (Addr.add ⟨World.heap w |>.size, 0, none⟩ 0) = some (.pointer x18) ∧
 Calls Tryd.prog 81 #[(.pointer x18)] w16 fun e19 w20 => ∃ x21 : Int, e19 = .returned (.int .i64 x21) ∧
 ∃ x22 : Option Addr, World.cell? w20 (Addr.add ⟨World.heap w |>.size, 0, none⟩ 0) = some (.pointer x22) ∧
 Calls Tryd.prog 96 #[(.pointer x22)] w20 fun e23 w24 => ∃ x25 : Int, e23 = .returned (.int .i64 x25) ∧
 ∃ cs26 : List Value, List.length cs26 = 1 ∧ Cells w24 ⟨World.heap w |>.size, 0, none⟩ cs26 ∧
 Calls Tryd.prog 95 #[(.agg (List.toArray cs26)), (.int .i64 x21)] w24 fun e27 w28 => orPan e27 (fun ch37 => R (.panicked ch37) w28) (e27 = .returned (.tuple #[]) ∧ ∃ (x29 : Option Addr) (x29n : Nat) (x29c : Nat), World.cell? w28 (Addr.add ⟨World.heap w5 |>.size, 0, none⟩ 1) = some (.slice x29 x29n x29c) ∧
 ∃ cs30, fillL (.elems 1) (zrep (zc Tryd.prog 2) (1 * 1)) [(0, (.int .i64 x25))] = some cs30 ∧
 ∀ w31 : World, w31 = World.alloc w28 (.cells (List.toArray cs30) 2) →
 RunV Tryd.prog (Builtin.append_ #[73, 73] 73 #[(.slice x29 x29n x29c), (.slice (some ⟨World.heap w28 |>.size, 0, none⟩) 1 1)]) w31 fun v32 w33 => ∃ (x34 : Option Addr) (x34n : Nat) (x34c : Nat), v32 = (.slice x34 x34n x34c) ∧
 one (.slice x34 x34n x34c) = true ∧ Option.isSome (World.cell? w33 (Addr.add ⟨World.heap w5 |>.size, 0, none⟩ 1)) = true ∧ World.frozen? w33 (Addr.add ⟨World.heap w5 |>.size, 0, none⟩ 1) = false ∧
 ∀ w35 : World, w35 = World.setCell w33 (Addr.add ⟨World.heap w5 |>.size, 0, none⟩ 1) (.slice x34 x34n x34c) →
 ∃ m36, m36 < m15 ∧ I14 m36 (IntKind.wrap .i64 (x17 + 1)) w35))
 else
 (∃ cs38 : List Value, List.length cs38 = 1 ∧ Cells w16 ⟨World.heap w |>.size, 0, none⟩ cs38 ∧
 Calls Tryd.prog 97 #[(.agg (List.toArray cs38)), (.int .i64 16)] w16 fun e39 w40 => orPan e39 (fun ch52 => R (.panicked ch52) w40) (∃ (x41 : Option Addr) (x41n : Nat) (x41c : Nat), e39 = .returned (.slice x41 x41n x41c) ∧
 one (.slice x41 x41n x41c) = true ∧ Option.isSome (World.cell? w40 (Addr.add ⟨World.heap w5 |>.size, 0, none⟩ 2)) = true ∧ World.frozen? w40 (Addr.add ⟨World.heap w5 |>.size, 0, none⟩ 2) = false ∧
 ∀ w42 : World, w42 = World.setCell w40 (Addr.add ⟨World.heap w5 |>.size, 0, none⟩ 2) (.slice x41 x41n x41c) →
 ∃ cs43 : List Value, List.length cs43 = 1 ∧ Cells w42 ⟨World.heap w |>.size, 0, none⟩ cs43 ∧
 Calls Tryd.prog 97 #[(.agg (List.toArray cs43)), (.int .i64 16)] w42 fun e44 w45 => orPan e44 (fun ch51 => R (.panicked ch51) w45) (∃ (x46 : Option Addr) (x46n : Nat) (x46c : Nat), e44 = .returned (.slice x46 x46n x46c) ∧
 one (.slice x46 x46n x46c) = true ∧ Option.isSome (World.cell? w45 (Addr.add ⟨World.heap w5 |>.size, 0, none⟩ 3)) = true ∧ World.frozen? w45 (Addr.add ⟨World.heap w5 |>.size, 0, none⟩ 3) = false ∧
 ∀ w47 : World, w47 = World.setCell w45 (Addr.add ⟨World.heap w5 |>.size, 0, none⟩ 3) (.slice x46 x46n x46c) →
 ∃ cs48 : List Value, List.length cs48 = 4 ∧ Cells w47 ⟨World.heap w5 |>.size, 0, none⟩ cs48 ∧
 Array.size (List.toArray cs48) = 4 ∧ (∀ u ∈ Array.toList (List.toArray cs48), one u = true) ∧ Room w47 ⟨World.heap w1 |>.size, 0, none⟩ 4 ∧
 ∀ w49 : World, w49 = setCells w47 ⟨World.heap w1 |>.size, 0, none⟩ (Array.toList (List.toArray cs48)) 0 →
 ∃ cs50 : List Value, List.length cs50 = 4 ∧ Cells w49 ⟨World.heap w1 |>.size, 0, none⟩ cs50 ∧
 R (.returned (.agg (List.toArray cs50))) w49)))))))
theorem e80 (r0 : Array Value) (w : World) (R : Ending → World → Prop) : denS Tryd.prog s80 (argsEnv 0 [(.agg r0)]) w (endK r80 R) = d80 r0 w R := by kernel_rfl
theorem c80 (r0 : Array Value) {w : World} {R : Ending → World → Prop} (h : d80 r0 w R) : Calls Tryd.prog 80 #[(.agg r0)] w R :=
  den80 [(.agg r0)] w R (by simp) ((e80 r0 w R).symm ▸ h)

/-- (prelude/batch.reader).held -/
def s95 : S := (.seq (.ops [⟨(some 2), (.box 144 (.tmp 0)), .ptr, none⟩] [2, 1])
 (.seq (.ops [⟨(some 5), (.fa 0 (.tmp 2)), .ptr, none⟩,
  ⟨(some 6), (.ld1 (.tmp 5)), .ptr, none⟩,
  ⟨(some 7), (.call 77 [(.tmp 6)] [(.int .i64)]), (.int .i64), none⟩,
  ⟨(some 4), (.mv (.tmp 7)), (.int .i64), none⟩] [4, 1])
 (.seq (.ops [⟨(some 8), (.mv (.tmp 4)), (.int .i64), none⟩,
  ⟨(some 9), (.bin .neq (.tmp 8) (.const (.int .i64 0))), .bool, none⟩] [9, 1, 4])
 (.cond (.tmp 9)
 (.ops [⟨(some 10), (.mv (.tmp 1)), (.int .i64), none⟩,
  ⟨(some 11), (.mv (.tmp 4)), (.int .i64), none⟩,
  ⟨(some 12), (.bld 141 (.fields [(0, 1), (1, 1)]) [(0, (.tmp 10)), (1, (.tmp 11))]), .agg, none⟩,
  ⟨(some 13), (.mkI 141 (.tmp 12)), .any, none⟩,
  ⟨none, (.pan (.tmp 13)), .any, none⟩] [])
 .skip))))
def r95 : List Res := []
theorem tr95 : trS Tryd.prog [79, 80, 95, 97] 14 (Tryd.f95.body.getD .skip) s95 = some s95 := by kernel_rfl
theorem den95 (args : List Value) (w : World) (R : Ending → World → Prop) (hn : args.length ≤ 14) (h : denS Tryd.prog s95 (argsEnv 0 args) w (endK r95 R)) : Calls Tryd.prog 95 args.toArray w R :=
  calls_of_den (pn := [79, 80, 95, 97]) (fn := Tryd.f95) (c := Tryd.f95.body.getD .skip) Tryd.func95 (by kernel_rfl) (by rw [Tryd.ntmps95]; exact hn) (by rw [Tryd.ntmps95]; exact tr95) (by kernel_rfl) h
def d95 (r0 : Array Value) (at1 : Int) (w : World) (R : Ending → World → Prop) : Prop :=
 ∀ w2 : World, w2 = World.alloc w (.cells r0 144) →
 ∃ x3 : Option Addr, World.cell? w2 (Addr.add ⟨World.heap w |>.size, 0, none⟩ 0) = some (.pointer x3) ∧
 Calls Tryd.prog 77 #[(.pointer x3)] w2 fun e4 w5 => ∃ x6 : Int, e4 = .returned (.int .i64 x6) ∧
 (bif (!decide (x6 = 0)) then
 (∃ cs7, fillL (.fields [(0, 1), (1, 1)]) (zc Tryd.prog 141) [(0, (.int .i64 at1)), (1, (.int .i64 x6))] = some cs7 ∧
 (∃ t u, ((.iface 141 (.agg (List.toArray cs7))) : Value) = .iface t u) ∧ R (.panicked [⟨(.iface 141 (.agg (List.toArray cs7))), false, false⟩]) w5)
 else
 (R (.returned (.tuple #[])) w5))
theorem e95 (r0 : Array Value) (at1 : Int) (w : World) (R : Ending → World → Prop) : denS Tryd.prog s95 (argsEnv 0 [(.agg r0), (.int .i64 at1)]) w (endK r95 R) = d95 r0 at1 w R := by kernel_rfl
theorem c95 (r0 : Array Value) (at1 : Int) {w : World} {R : Ending → World → Prop} (h : d95 r0 at1 w R) : Calls Tryd.prog 95 #[(.agg r0), (.int .i64 at1)] w R :=
  den95 [(.agg r0), (.int .i64 at1)] w R (by simp) ((e95 r0 at1 w R).symm ▸ h)

/-- (prelude/batch.reader).set -/
def s97 : S := (.seq (.ops [⟨(some 2), (.box 144 (.tmp 0)), .ptr, none⟩,
  ⟨(some 4), (.mv (.const (.slice none 0 0))), .sl, none⟩] [2, 1])
 (.seq (.ops [⟨(some 5), (.mv (.const (.slice none 0 0))), .sl, none⟩] [2, 1, 5])
 (.seq (.seq (.ops [⟨(some 10), (.ldN 1 (.tmp 2)), .agg, none⟩,
  ⟨(some 11), (.mv (.tmp 1)), (.int .i64), none⟩,
  ⟨(some 12), (.callP 79 [(.tmp 10), (.tmp 11)] [(.int .i64)]), (.int .i64), none⟩,
  ⟨(some 13), (.mv (.const (.int .i64 0))), (.int .i64), none⟩] [13, 12, 2, 5])
 (.block 0
 (.loop [(5, .sl), (13, (.int .i64))] [2, 12]
 (.seq (.ops [⟨(some 14), (.bin .lss (.tmp 13) (.tmp 12)), .bool, none⟩] [14, 2, 5, 13, 12])
 (.seq (.cond (.tmp 14)
 .skip
 (.exit 0))
 (.seq (.block 1
 (.seq (.ops [⟨(some 15), (.fa 0 (.tmp 2)), .ptr, none⟩,
  ⟨(some 16), (.ld1 (.tmp 15)), .ptr, none⟩,
  ⟨(some 17), (.call 81 [(.tmp 16)] [(.int .i64)]), (.int .i64), none⟩,
  ⟨(some 6), (.mv (.tmp 17)), (.int .i64), none⟩] [2, 6, 5, 13, 12])
 (.seq (.ops [⟨(some 18), (.fa 0 (.tmp 2)), .ptr, none⟩,
  ⟨(some 19), (.ld1 (.tmp 18)), .ptr, none⟩,
  ⟨(some 20), (.call 44 [(.tmp 19), (.const (.int .i64 10))] [.sl]), .sl, none⟩,
  ⟨(some 7), (.mv (.tmp 20)), .sl, none⟩] [2, 6, 7, 5, 13, 12])
 (.seq (.ops [⟨(some 21), (.ldN 1 (.tmp 2)), .agg, none⟩,
  ⟨(some 22), (.mv (.tmp 6)), (.int .i64), none⟩,
  ⟨(some 23), (.callP 95 [(.tmp 21), (.tmp 22)] []), .any, none⟩] [7, 5, 6, 13, 12, 2])
 (.seq (.ops [⟨(some 25), (.mv (.tmp 7)), .sl, none⟩,
  ⟨(some 26), (.call 110 [(.tmp 25)] [.agg, (.int .i64)]), .any, none⟩,
  ⟨(some 24), (.mv (.tmp 26)), .any, none⟩,
  ⟨(some 27), (.ext 0 (.tmp 24)), .agg, none⟩,
  ⟨(some 28), (.ext 1 (.tmp 24)), (.int .i64), none⟩,
  ⟨(some 8), (.alloc 129), .ptr, none⟩,
  ⟨none, (.stN 2 (.tmp 8) (.tmp 27)), .any, none⟩,
  ⟨(some 9), (.mv (.tmp 28)), (.int .i64), none⟩] [5, 8, 6, 13, 12, 2])
 (.join [] [2, 5, 8, 12, 13]
 (.seq (.draw (.take 0 ⟨(some 29), (.mv (.tmp 5)), .sl, none⟩
  (.take 1 ⟨(some 30), (.len (.tmp 29)), (.int .i64), none⟩
  (.take 2 ⟨(some 31), (.bin .gtr (.tmp 30) (.const (.int .i64 0))), .bool, none⟩
  (.take 3 ⟨(some 32), (.mv (.tmp 31)), .bool, none⟩
  (.take 4 ⟨(some 33), (.mv (.tmp 5)), .sl, (some (32, true))⟩
  (.take 5 ⟨(some 34), (.mv (.tmp 5)), .sl, (some (32, true))⟩
  (.take 6 ⟨(some 35), (.len (.tmp 34)), (.int .i64), (some (32, true))⟩
  (.take 7 ⟨(some 36), (.bin .sub (.tmp 35) (.const (.int .i64 1))), (.int .i64), (some (32, true))⟩
  (.take 8 ⟨(some 37), (.ia 2 (.tmp 33) (.tmp 36)), .ptr, (some (32, true))⟩
  (.take 9 ⟨(some 38), (.ldN 2 (.tmp 37)), .agg, (some (32, true))⟩
  (.take 10 ⟨(some 39), (.ldN 2 (.tmp 8)), .agg, (some (32, true))⟩
  (.go 11 ⟨(some 40), (.call 104 [(.tmp 38), (.tmp 39)] [(.int .i64)]), (.int .i64), (some (32, true))⟩ []
  (.take 12 ⟨(some 41), (.bin .geq (.tmp 40) (.const (.int .i64 0))), .bool, (some (32, true))⟩
  (.take 13 ⟨(some 42), (.pick (.tmp 32) (.tmp 41) (.const (.bool false))), .bool, none⟩
  .done)))))))))))))) [42, 6, 5, 8, 13, 12, 2])
 (.cond (.tmp 42)
 (.ops [⟨(some 43), (.mv (.tmp 6)), (.int .i64), none⟩,
  ⟨(some 44), (.bld 141 (.fields [(0, 1), (1, 1)]) [(0, (.tmp 43)), (1, (.const (.int .i64 65)))]), .agg, none⟩,
  ⟨(some 45), (.mkI 141 (.tmp 44)), .any, none⟩,
  ⟨none, (.pan (.tmp 45)), .any, none⟩] [5, 8, 13, 12, 2])
 .skip))
 (.ops [⟨(some 46), (.mv (.tmp 5)), .sl, none⟩,
  ⟨(some 47), (.ldN 2 (.tmp 8)), .agg, none⟩,
  ⟨(some 48), (.bldS 129 1 2 [(0, (.tmp 47))]), .sl, none⟩,
  ⟨(some 49), (.app #[74, 74] 74 (.tmp 46) (.tmp 48)), .sl, none⟩,
  ⟨(some 5), (.mv (.tmp 49)), .sl, none⟩] [13, 12, 2, 5])))))))
 (.ops [⟨(some 50), (.bin .add (.tmp 13) (.const (.int .i64 1))), (.int .i64), none⟩,
  ⟨(some 13), (.mv (.tmp 50)), (.int .i64), none⟩] [13, 12, 2, 5])))))))
 (.seq (.ops [⟨(some 51), (.mv (.tmp 5)), .sl, none⟩,
  ⟨(some 4), (.mv (.tmp 51)), .sl, none⟩] [4])
 .ret))))
def r97 : List Res := [.t 4]
theorem tr97 : trS Tryd.prog [79, 80, 95, 97] 52 (Tryd.f97.body.getD .skip) s97 = some s97 := by kernel_rfl
theorem den97 (args : List Value) (w : World) (R : Ending → World → Prop) (hn : args.length ≤ 52) (h : denS Tryd.prog s97 (argsEnv 0 args) w (endK r97 R)) : Calls Tryd.prog 97 args.toArray w R :=
  calls_of_den (pn := [79, 80, 95, 97]) (fn := Tryd.f97) (c := Tryd.f97.body.getD .skip) Tryd.func97 (by kernel_rfl) (by rw [Tryd.ntmps97]; exact hn) (by rw [Tryd.ntmps97]; exact tr97) (by kernel_rfl) h
def d97 (r0 : Array Value) (most1 : Int) (w : World) (R : Ending → World → Prop) : Prop :=
 ∀ w2 : World, w2 = World.alloc w (.cells r0 144) →
 ∃ cs3 : List Value, List.length cs3 = 1 ∧ Cells w2 ⟨World.heap w |>.size, 0, none⟩ cs3 ∧
 Calls Tryd.prog 79 #[(.agg (List.toArray cs3)), (.int .i64 most1)] w2 fun e4 w5 => orPan e4 (fun ch49 => R (.panicked ch49) w5) (∃ x6 : Int, e4 = .returned (.int .i64 x6) ∧
 ∃ I7 : Nat → Option Addr → Nat → Nat → Int → World → Prop,
 (∃ m, I7 m none 0 0 0 w5) ∧
 (∀ (m8 : Nat) (w9 : World) (l10 : Option Addr) (l10n : Nat) (l10c : Nat) (x11 : Int), I7 m8 l10 l10n l10c x11 w9 →
 (bif (decide (x11 < x6)) then
 (∃ x12 : Option Addr, World.cell? w9 (Addr.add ⟨World.heap w |>.size, 0, none⟩ 0) = some (.pointer x12) ∧
 Calls Tryd.prog 81 #[(.pointer x12)] w9 fun e13 w14 => ∃ x15 : Int, e13 = .returned (.int .i64 x15) ∧
 ∃ x16 : Option Addr, World.cell? w14 (Addr.add ⟨World.heap w |>.size, 0, none⟩ 0) = some (.pointer x16) ∧
 Calls Tryd.prog 44 #[(.pointer x16), (.int .i64 10)] w14 fun e17 w18 => ∃ (x19 : Option Addr) (x19n : Nat) (x19c : Nat), e17 = .returned (.slice x19 x19n x19c) ∧
 ∃ cs20 : List Value, List.length cs20 = 1 ∧ Cells w18 ⟨World.heap w |>.size, 0, none⟩ cs20 ∧
 Calls Tryd.prog 95 #[(.agg (List.toArray cs20)), (.int .i64 x15)] w18 fun e21 w22 => orPan e21 (fun ch48 => R (.panicked ch48) w22) (e21 = .returned (.tuple #[]) ∧ Calls Tryd.prog 110 #[(.slice x19 x19n x19c)] w22 fun e23 w24 => ∃ x25 : Array Value, ∃ x26 : Int, e23 = .returned (.tuple #[(.agg x25), (.int .i64 x26)]) ∧
 ∃ x27 : Array Value, (#[(.agg x25), (.int .i64 x26)] : Array Value)[0]? = some (.agg x27) ∧
 ∃ x28 : Int, (#[(.agg x25), (.int .i64 x26)] : Array Value)[1]? = some (.int .i64 x28) ∧
 ∀ w29 : World, w29 = World.alloc w24 (.cells (zc Tryd.prog 129).toArray 129) →
 Array.size x27 = 2 ∧ (∀ u ∈ Array.toList x27, one u = true) ∧ Room w29 ⟨World.heap w24 |>.size, 0, none⟩ 2 ∧
 ∀ w30 : World, w30 = setCells w29 ⟨World.heap w24 |>.size, 0, none⟩ (Array.toList x27) 0 →
 ∃ J31 : World → Prop,
 (∀ w32 : World, w32 = World.drew w30 →
 (bif (decide (0 < ((l10n : Nat) : Int))) then
 (0 ≤ (IntKind.wrap .i64 (((l10n : Nat) : Int) - 1)) ∧ (IntKind.wrap .i64 (((l10n : Nat) : Int) - 1)) < ((l10n : Nat) : Int) ∧ optK l10 fun a33 =>
 ∃ cs34 : List Value, List.length cs34 = 2 ∧ Cells w32 (Addr.add a33 (Int.toNat (IntKind.wrap .i64 (((l10n : Nat) : Int) - 1)) * 2)) cs34 ∧
 ∃ cs35 : List Value, List.length cs35 = 2 ∧ Cells w32 ⟨World.heap w24 |>.size, 0, none⟩ cs35 ∧
 Calls Tryd.prog 104 #[(.agg (List.toArray cs34)), (.agg (List.toArray cs35))] w32 fun e36 w37 => ∃ x38 : Int, e36 = .returned (.int .i64 x38) ∧
 (bif (decide (0 ≤ x38)) then
 (∃ cs39, fillL (.fields [(0, 1), (1, 1)]) (zc Tryd.prog 141) [(0, (.int .i64 x15)), (1, (.int .i64 65))] = some cs39 ∧
 (∃ t u, ((.iface 141 (.agg (List.toArray cs39))) : Value) = .iface t u) ∧ R (.panicked [⟨(.iface 141 (.agg (List.toArray cs39))), false, false⟩]) w37)
 else
 (J31  w37)))
 else
 (J31  w32))) ∧
 (∀ (w40 : World), J31  w40 →
 ∃ cs41 : List Value, List.length cs41 = 2 ∧ Cells w40 ⟨World.heap w24 |>.size, 0, none⟩ cs41 ∧
 ∃ cs42, fillL (.elems 2) (zrep (zc Tryd.prog 129) (1 * 2)) [(0, (.agg (List.toArray cs41)))] = some cs42 ∧
 ∀ w43 : World, w43 = World.alloc w40 (.cells (List.toArray cs42) 129) →
 RunV Tryd.prog (Builtin.append_ #[74, 74] 74 #[(.slice l10 l10n l10c), (.slice (some ⟨World.heap w40 |>.size, 0, none⟩) 1 1)]) w43 fun v44 w45 => ∃ (x46 : Option Addr) (x46n : Nat) (x46c : Nat), v44 = (.slice x46 x46n x46c) ∧
 ∃ m47, m47 < m8 ∧ I7 m47 x46 x46n x46c (IntKind.wrap .i64 (x11 + 1)) w45)))
 else
 (R (.returned (.slice l10 l10n l10c)) w9))))
theorem e97 (r0 : Array Value) (most1 : Int) (w : World) (R : Ending → World → Prop) : denS Tryd.prog s97 (argsEnv 0 [(.agg r0), (.int .i64 most1)]) w (endK r97 R) = d97 r0 most1 w R := by kernel_rfl
theorem c97 (r0 : Array Value) (most1 : Int) {w : World} {R : Ending → World → Prop} (h : d97 r0 most1 w R) : Calls Tryd.prog 97 #[(.agg r0), (.int .i64 most1)] w R :=
  den97 [(.agg r0), (.int .i64 most1)] w R (by simp) ((e97 r0 most1 w R).symm ▸ h)

end Go.Proofs.YtjchneebdlncfaaDoor.Fn
